/-
  Package team: the rules of one game; an order of one player; its seal; the examples that the tops ask.
-/
import Derived.Test.YtoddmaedianliaaTmc
import Derived.Maps.OwnOps
import Derived.WideMake
namespace Go.Proofs.Ytoddmaedianliaa
open Go.RowKit Go.BigFrame
attribute [local go_sem] Later.cell Later.frozen Lat.cell Lat.frozen run_makeMap_plain
theorem CellsAt.new2 (w : World) (x y : Int) (t : TypeId) : CellsAt (w.alloc (.cells #[.int .i64 x, .int .i64 y] t)) .i64 (some ⟨w.heap.size, 0, none⟩) [x, y] := fun i hi => by
  refine ⟨w.heap.size, 0, rfl, ?_⟩
  have h2 : i = 0 ∨ i = 1 := by simp at hi; omega
  rcases h2 with rfl | rfl
  · exact (Blk.new w _ _).cell 0 rfl
  · exact (Blk.new w _ _).cell 1 rfl
def ruleC (gb : Nat) : Array Value := #[.int .i64 4, .slice (some ⟨gb, 0, none⟩) 1 1, .int .i64 1, .int .i64 0]
def GameAt (w : World) (gb : Nat) : Prop := CntsAt w (some ⟨gb, 0, none⟩) [⟨1, 3, 1⟩]
set_option maxRecDepth 100000 in
theorem team_Check1 (gb : Nat) (w : World) (hg : GameAt w gb) :
    Calls Try.prog 30 #[.agg (ruleC gb)] w fun e w' => e = .returned (.int .i64 0) ∧ Ext w w' := by
  have HG := Lib.hid hg
  clear hg
  unfold ruleC
  go_enter Try.func30, Try.ntmps30
  go_wp2_with fail
  refine (team_within_1 1 16 4 _ _ (by simp)).mono ?_
  rintro e w1 ⟨rfl, hx1⟩
  rw [ins_ok (by decide)]
  have hb1 : Blk w1 w.heap.size #[.int .i64 4, .slice (some ⟨gb, 0, none⟩) 1 1, .int .i64 1, .int .i64 0] := (Blk.new w _ _).ext hx1
  have hE1 := ((Ext.refl w).alloc (.cells #[.int .i64 4, .slice (some ⟨gb, 0, none⟩) 1 1, .int .i64 1, .int .i64 0] 78)).trans hx1
  have c1 := hb1.cell 1 (v := .slice (some ⟨gb, 0, none⟩) 1 1) rfl
  have c2 := hb1.cell 2 (v := .int .i64 1) rfl
  have hlt := hb1.lt
  have HB1 := Lib.hid hb1
  have hW := team_within 1 20 [1, 1] (some ⟨w1.heap.size, 0, none⟩) 2 _ (by simp) (CellsAt.new2 w1 1 1 3)
  have HW := Lib.hid hW
  clear hb1 hx1 hW
  go_wp2_with fail
  refine HW.out.mono ?_
  rintro e w2 ⟨rfl, hx2⟩
  rw [show ins 1 20 [1, 1] = true by decide]
  have hb2 := (HB1.out.alloc (.cells #[.int .i64 1, .int .i64 1] 3)).ext hx2
  have hE2 := (hE1.alloc (.cells #[.int .i64 1, .int .i64 1] 3)).trans hx2
  clear c1 c2 hlt HB1 hx2 hE1 HW
  have c1 := hb2.cell 1 (v := .slice (some ⟨gb, 0, none⟩) 1 1) rfl
  have hlt := hb2.lt
  have HB2 := Lib.hid hb2
  have hCF := containsFunc_g 41 #[.pointer (some ⟨w.heap.size, 0, none⟩)] enters_teamCheck1 (fun _ => false) [⟨1, 3, 1⟩] (some ⟨gb, 0, none⟩) 1 w2 (HG.out.ext hE2) (by decide) (fun x hx w3 hx3 => by
    simp at hx
    subst hx
    exact team_check1 gb w.heap.size w3 (HB2.out.ext hx3))
  have HCF := Lib.hid hCF
  clear hb2 hCF
  go_wp2_with fail
  refine HCF.out.mono ?_
  rintro e w3 ⟨rfl, hx3⟩
  have hb3 := HB2.out.ext hx3
  have hE3 := hE2.trans hx3
  clear c1 hlt HB2 hx3 hE2 HCF
  have c3 := hb3.cell 3 (v := .int .i64 0) rfl
  have hlt := hb3.lt
  rw [show ([(⟨1, 3, 1⟩ : Cnt)].any fun _ => false) = false from rfl]
  go_wp2_with fail
  refine (team_within_1 0 99 0 _ _ (by simp)).mono ?_
  rintro e w4 ⟨rfl, hx4⟩
  rw [ins_ok (by decide)]
  go_wp2
  go_ret
  exact ⟨rfl, hE3.trans hx4⟩
theorem team_within_in (lo hi y : Int) (a : Option Addr) (c : Nat) (w : World) (ha : CellsAt w .i64 a [y]) (h : lo ≤ y ∧ y ≤ hi) :
    Calls Try.prog 9 #[.int .i64 lo, .int .i64 hi, .slice a 1 c] w fun e w' => e = .returned (.bool true) ∧ Ext w w' := by
  have := team_within lo hi [y] a c w (by simp) ha
  rw [ins_ok h] at this
  exact this
/-- The map of one player's games. -/
def Map1 (w : World) (mb k : Nat) : Prop := (k = 0 → w.ownsMap Try.prog 3 (plainElem Try.prog 3) mb 0 (.map [] : DI)) ∧ (k = 1 → ∃ D : DI, w.ownsMap Try.prog 3 (plainElem Try.prog 3) mb 1 D ∧ Reads D (updF (fun _ => none) 2 1))
theorem Map1.chg {w w' : World} {S : Nat → Prop} {mb k : Nat} (h : Map1 w mb k) (hx : Chg S w w') (hs : ¬ S mb) : Map1 w' mb k :=
  ⟨fun e => let ⟨es, clock, hb, F, h1, h2⟩ := h.1 e; ⟨es, clock, hx.heap hb hs, F, h1, h2⟩, fun e => let ⟨D, ⟨es, clock, hb, F, h1, h2⟩, h3⟩ := h.2 e; ⟨D, ⟨es, clock, hx.heap hb hs, F, h1, h2⟩, h3⟩⟩
theorem Map1.ext {w w' : World} {mb k : Nat} (h : Map1 w mb k) (hx : Ext w w') : Map1 w' mb k := h.chg (hx.chg fun _ => False) id
set_option maxRecDepth 100000 in
set_option maxHeartbeats 1000000 in
theorem team_isOrder1 (gb ob pb : Nat) (w : World) (hg : GameAt w gb) (ho : w.cell? ⟨ob, 0, none⟩ = some (.slice (some ⟨pb, 0, none⟩) 1 1)) (hp : w.cell? ⟨pb, 0, none⟩ = some (.int .i64 2)) :
    Calls Try.prog 31 #[.agg (ruleC gb), .slice (some ⟨ob, 0, none⟩) 1 1] w fun e w' => e = .returned (.bool true) ∧ Ext w w' := by
  have HG := Lib.hid hg
  have HO := Lib.hid ho
  have HP := Lib.hid hp
  clear hg ho hp
  unfold ruleC
  go_enter Try.func31, Try.ntmps31
  go_wp2
  generalize hW : World.alloc _ _ = W
  have hM : Map1 W (w.heap.size + 1) 0 := by rw [← hW]; exact ⟨fun _ => by have := World.ownsMap_made (P := Try.prog) (H := Unit) (w.alloc (.cells #[.int .i64 4, .slice (some ⟨gb, 0, none⟩) 1 1, .int .i64 1, .int .i64 0] 92)) 3 (plainElem Try.prog 3); simpa using this, fun h => by cases h⟩
  have hB : Blk W w.heap.size #[.int .i64 4, .slice (some ⟨gb, 0, none⟩) 1 1, .int .i64 1, .int .i64 0] := by rw [← hW]; exact (Blk.new w _ _).alloc _
  have hE : Ext w W := by rw [← hW]; exact ((Ext.refl w).alloc _).alloc _
  have HM := Lib.hid hM
  have HB := Lib.hid hB
  clear hW hM hB
  go_loopw [22] (fun i wr => ∃ k : Nat, k ≤ 1 ∧ i = .int .i64 k ∧ Map1 wr (w.heap.size + 1) k ∧ Blk wr w.heap.size #[.int .i64 4, .slice (some ⟨gb, 0, none⟩) 1 1, .int .i64 1, .int .i64 0] ∧ Ext w wr) (fun i _ => 1 - (intOf i).toNat)
  case atStart => exact ⟨0, by omega, rfl, HM.out, HB.out, hE⟩
  case round =>
    obtain ⟨k, hk, rfl, hM, hB, hx⟩ := hrel
    have HM1 := Lib.hid hM
    have HB1 := Lib.hid hB
    have c0 := hB.cell 0 (v := .int .i64 4) rfl
    have c1 := hB.cell 1 (v := .slice (some ⟨gb, 0, none⟩) 1 1) rfl
    have c2 := hB.cell 2 (v := .int .i64 1) rfl
    have hlt := hB.lt
    clear hM hB HM HB
    rcases (by omega : k = 0 ∨ k = 1) with rfl | rfl
    · have o0 := hx.cell HO.out
      have p0 := hx.cell HP.out
      have hol := lt_of_cell o0
      have hpl := lt_of_cell p0
      obtain ⟨b9, o9, e9, g0, g1, g2⟩ := HG.out 0 (by decide)
      cases e9
      replace g0 := hx.cell g0
      have hgl := lt_of_cell g0
      simp only [List.getElem_cons_zero, Nat.zero_mul, Nat.add_zero] at g0
      have hW := fun W' (hx' : Ext wr W') => team_within_in 0 3 2 (some ⟨pb, 0, none⟩) 1 W' ((CellsAt.of1 p0).ext hx') (by decide)
      have HW := Lib.hid hW
      clear hW
      go_wp2
      refine wp_region_later (by kernel_rfl) (by kernel_rfl) ?_
      repeat (go_big_quiet_step (refine Calls.later (HW.out _ (Later.ext _))))
      refine wpQuiet_nil ?_
      rintro _ ⟨⟨w2, hx2⟩, rfl⟩
      have hE2 := hx.trans hx2
      have HB2 := Lib.hid (HB1.out.ext hx2)
      have HM2 := Lib.hid (HM1.out.ext hx2)
      clear c0 c1 c2 hlt HM1 HB1 o0 p0 hol hpl g0 g1 g2 hgl HW
      go_wp2
      go_loopw [62] (fun j wr => ∃ k : Nat, k ≤ 1 ∧ j = .int .i64 k ∧ Map1 wr (w.heap.size + 1) k ∧ Blk wr w.heap.size #[.int .i64 4, .slice (some ⟨gb, 0, none⟩) 1 1, .int .i64 1, .int .i64 0] ∧ Ext w wr) (fun i _ => 1 - (intOf i).toNat)
      case atStart => exact ⟨0, by omega, rfl, HM2.out, HB2.out, hE2⟩
      case round =>
        obtain ⟨j, hj, rfl, hM, hB, hx3⟩ := hrel
        have HM3 := Lib.hid hM
        have HB3 := Lib.hid hB
        have hmlt := hB.lt
        clear hM hB
        rcases (by omega : j = 0 ∨ j = 1) with rfl | rfl
        · have p0 := hx3.cell HP.out
          have hpl := lt_of_cell p0
          have HOwn := Lib.hid (HM3.out.1 rfl)
          go_wp2_with (first | (at_lookup; refine wpList_lookup_own_int _ rfl _ _ 63 rfl 3 3 .i64 keyed_i under_map under_int (Try.zeroValue3 _) (w.heap.size + 1) 0 (.map []) rfl HOwn.out _ (kI 2) rfl (key_i64 (by unfold I64; decide)) ?_; intro c hat hwc; obtain rfl : c = 0 := by (have h2 : (DataW.lit (Lit.int .i64 0) : DI) = .lit (.int .i64 c) := hat); cases h2; rfl) | (at_mapUpdate; refine wp_mapUpdate rfl _ _ _ rfl (w.heap.size + 1) 0 (.map []) (fun _ => none) rfl HOwn.out (by decide) Reads.empty 2 1 (by unfold I64; decide) (by unfold I64; decide) rfl rfl ?_; intro w4 D4 hD4 hR4 hg4))
          have hC4 := grown_chg hg4
          have hE4 := Chg.to_ext hx3 hC4 (by intro i hi; cases hi; omega)
          have HB4 := Lib.hid (HB3.out.chg hC4 (by intro e; have := Option.some.inj e; omega))
          have HM4 := Lib.hid (show Map1 w4 (w.heap.size + 1) 1 from ⟨fun h => (by cases h), fun _ => ⟨D4, hD4, hR4⟩⟩)
          clear hg4 hC4 hD4 hR4
          go_wp2
          go_roundw
          case rel => exact ⟨1, by omega, by go_num, HM4.out, HB4.out, hE4⟩
          case measure => simp [intOf]
        · go_wp2
          go_roundw
          case rel => exact ⟨1, by omega, by go_num, HM3.out, HB3.out, hx3⟩
          case measure => simp [intOf]
    · rw [show ((1 : Nat) : Int) = 1 from rfl]
      obtain ⟨D, hD, hR⟩ := HM1.out.2 rfl
      have HD := Lib.hid hD
      have HR := Lib.hid hR
      have hml := hD.lt
      clear hD hR c0 c1
      go_wp2_with (at_range; refine wpList_range_own _ rfl _ 63 rfl 3 3 keyed_i under_map _ (w.heap.size + 1) 1 D rfl HD.out ?_; intro w0 hrg0 hg0 hs0)
      have hE0 := Chg.to_ext hx (grown_chg hg0) (by intro i hi; cases hi)
      have HB0 := Lib.hid (HB1.out.chg (grown_chg hg0) (by intro e; cases e))
      have HG0 := Lib.hid hrg0
      have hRs0 : w.heap.size + 1 < wr.heap.size := by omega
      clear hrg0 hg0 hs0 c2 hlt HB1 HD HM1
      generalize hRR : wr.heap.size = R at *
      go_frame
      go_loopw [11] (fun _ wq => ∃ (left : Lit → Bool) (cnt : Nat), wq.ranges Try.prog 3 (plainElem Try.prog 3) (w.heap.size + 1) R 1 D left cnt ∧ (∀ kl, left kl = true → Maps.has D kl = true) ∧ Blk wq w.heap.size #[.int .i64 4, .slice (some ⟨gb, 0, none⟩) 1 1, .int .i64 1, .int .i64 0] ∧ Ext w wq) (fun _ wq => wq.rangeLeft (w.heap.size + 1) R)
      case atStart => exact ⟨Maps.has D, Maps.size D, HG0.out, fun _ h => h, HB0.out, hE0⟩
      case round =>
        obtain ⟨left, cnt, hrg, hsub, hB, hx5⟩ := hrel
        have HRg := Lib.hid hrg
        have HS := Lib.hid hsub
        have HB5 := Lib.hid hB
        clear hrg hsub hB
        go_wp2_with (at_next; refine wpList_next_ranges_ii _ rfl _ rfl 3 3 .i64 .i64 keyed_i under_int under_int (w.heap.size + 1) R 1 _ _ _ rfl HRg.out ?_ ?_)
        · intro hc0 hl0
          go_wp2
          go_ret
          exact ⟨rfl, hx5⟩
        · intro y c w1 cnt1 hwx hwc hlx hat hrg1 hlt1 hg1 hs1 hen
          have hfx := HR.out.entry (HS.out _ hlx) hat
          have hc1 : c = 1 := by
            unfold updF at hfx
            split at hfx
            · cases hfx; rfl
            · cases hfx
          subst hc1
          have hE6 := Chg.to_ext hx5 (grown_chg hg1) (by intro i hi; cases hi; omega)
          have hB6 := HB5.out.chg (grown_chg hg1) (by intro e; have := Option.some.inj e; omega)
          have HB6 := Lib.hid hB6
          have c2 := hB6.cell 2 (v := .int .i64 1) rfl
          have hlt := hB6.lt
          have HRg1 := Lib.hid hrg1
          have hml2 : w1.rangeLeft (w.heap.size + 1) R < wr.rangeLeft (w.heap.size + 1) R := by rw [hrg1.left_eq, HRg.out.left_eq]; exact hlt1
          clear hat hg1 hrg1 hwx hwc hfx hlx hB6 hs1
          go_wp2
          go_roundw
          case rel => exact ⟨_, cnt1, HRg1.out, fun kl hl => HS.out kl (by simp only [Bool.and_eq_true] at hl; exact hl.1), HB6.out, hE6⟩
          case measure => exact hml2
end Go.Proofs.Ytoddmaedianliaa
