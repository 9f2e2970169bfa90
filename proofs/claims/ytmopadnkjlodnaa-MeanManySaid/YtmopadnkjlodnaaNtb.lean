/-
  The laws of chapter 6: Night.board.
-/
import Derived.Deep.WholeRow
import Derived.Test.YtmopadnkjlodnaaNtp
import Derived.Test.YtmopadnkjlodnaaRbx
namespace Go.Proofs.Ytmopadnkjlodnaa
open Go.RowKit Go.BigFrame
attribute [local go_sem] Later.cell Later.frozen
/-- A night as data. -/
structure Nt where
  beds : List Int
  starts : List Int
  gates : Int
  hits : List Int
def Nt.cells (n : Nt) (ba sa ha : Option Addr) (bc sc hc : Nat) : Array Value := #[.slice ba n.beds.length bc, .slice sa n.starts.length sc, .int .u8 n.gates, .slice ha n.hits.length hc]
structure NtA (n : Nt) (ba sa ha : Option Addr) (w : World) : Prop where
  beds : CellsAt w .u8 ba n.beds
  starts : CellsAt w .u8 sa n.starts
  hits : CellsAt w .u8 ha n.hits
  ib : ∀ x ∈ n.beds, 0 ≤ x ∧ x ≤ 255
  is_ : ∀ x ∈ n.starts, 0 ≤ x ∧ x ≤ 255
  ih : ∀ x ∈ n.hits, 0 ≤ x ∧ x ≤ 255
  ig : 0 ≤ n.gates ∧ n.gates ≤ 255
  lb : n.beds.length ≤ maxLen
  ls : n.starts.length ≤ maxLen
  lh : n.hits.length ≤ maxLen
theorem NtA.ext {n : Nt} {ba sa ha : Option Addr} {w w' : World} (h : NtA n ba sa ha w) (hx : Ext w w') : NtA n ba sa ha w' := ⟨h.beds.ext hx, h.starts.ext hx, h.hits.ext hx, h.ib, h.is_, h.ih, h.ig, h.lb, h.ls, h.lh⟩
theorem cell_chg (w : World) (b j : Nat) (v : Value) : Chg (· = b) w (w.setCell ⟨b, j, none⟩ v) := (Chg.refl (· = b) w).setCell (p := ⟨b, j, none⟩) (.inr rfl) v
theorem th_cell {w : World} {k3 : Nat} {th : List Bool} (hb : Blk w k3 (th.map Value.bool).toArray) (hth : ThOk th) {j : Nat} (hj : j < 130) : w.cell? ⟨k3, j, none⟩ = some (.bool (th.getD j false)) := hb.cell j (by
  have : j < th.length := by rw [hth.len]; exact hj
  simp [List.getD_eq_getElem?_getD, this])
theorem th_set {w : World} {k3 : Nat} {th : List Bool} (hb : Blk w k3 (th.map Value.bool).toArray) (j : Nat) : Blk (w.setCell ⟨k3, j, none⟩ (.bool true)) k3 ((th.set j true).map Value.bool).toArray := by
  have h := hb.set j (.bool true)
  rwa [List.setIfInBounds_toArray, ← List.map_set] at h
set_option maxRecDepth 100000 in
set_option maxHeartbeats 4000000 in
theorem night_board (n : Nt) (ba sa ha : Option Addr) (bc sc hc : Nat) (w : World) (hA : NtA n ba sa ha w) :
    Calls Try.prog 35 #[.agg (n.cells ba sa ha bc sc hc)] w fun e w' => ∃ a c bl, e = .returned (.slice a bl.length c) ∧ OwnD w' w.heap.size (.slice a bl.length c) bl ∧ bedsB bl = true ∧ (1 ≤ bl.length ∧ bl.length ≤ 82) ∧ Ext w w' := by
  have HA := Lib.hid hA
  clear hA
  unfold Nt.cells
  go_enter Try.func35, Try.ntmps35
  go_upto_region 1 with fail
  generalize hw1 : World.alloc w _ = w1
  obtain ⟨k1, hk1⟩ : ∃ y, y = w.heap.size := ⟨_, rfl⟩
  rw [← hk1]
  have HB1 : Hid (Blk w1 k1 #[.slice ba n.beds.length bc, .slice sa n.starts.length sc, .int .u8 n.gates, .slice ha n.hits.length hc]) := Lib.hid (by rw [← hw1, hk1]; exact Blk.new _ _ _)
  have HX1 : Hid (Ext w w1) := Lib.hid (by rw [← hw1]; exact (Ext.refl w).alloc _)
  have HK1 := Lib.hid hk1
  clear hw1 hk1
  have q146 : ∀ (W : World) (o : Obj), (storeCells ⟨W.heap.size + 1, 0, none⟩ Try.zeroCells146.toList).run Try.prog ((W.alloc o).alloc (.cells Try.zeroCells146 146)) = .ok () ((W.alloc o).alloc (.cells Try.zeroCells146 146)) := fun W o => by
    have := run_storeCells_new (P := Try.prog) (W.alloc o) 146 Try.zeroCells146 Try.zeroCells146 (by kernel_rfl) rfl (by kernel_rfl)
    simpa using this
  go_upto_region 2 with fail
  clear q146
  obtain ⟨k3, hk3⟩ : ∃ y, y = w1.heap.size + 1 := ⟨_, rfl⟩
  rw [← hk3]
  have HO2 : Hid (OwnD (w1.alloc (.cells #[] 99)) w.heap.size (.slice (some ⟨w1.heap.size, 0, none⟩) 0 0) []) := Lib.hid (own_empty rfl (by have := HX1.out.size; omega))
  generalize hw2 : World.alloc (World.alloc w1 _) _ = w2
  have HB2 : Hid (Blk w2 k3 Try.zeroCells146) := Lib.hid (by rw [← hw2]; exact Blk.at _ (by simp [hk3]))
  have HO2' : Hid (OwnD w2 w.heap.size (.slice (some ⟨w1.heap.size, 0, none⟩) 0 0) []) := Lib.hid (by rw [← hw2]; exact HO2.out.ext ((Ext.refl _).alloc _))
  have HX12 : Hid (Ext w1 w2) := Lib.hid (by rw [← hw2]; exact ((Ext.refl w1).alloc _).alloc _)
  have HK3 := Lib.hid hk3
  clear hw2 hk3 HO2
  have z0 := HB2.out.cell 72 (v := .bool false) (by kernel_rfl)
  have y0 := HB2.out.frozen 72
  have yl := HB2.out.lt
  have HB3 : Hid (Blk (w2.setCell ⟨k3, 72, none⟩ (.bool true)) k3 (th0.map Value.bool).toArray) := Lib.hid (by have h := HB2.out.set 72 (.bool true); rwa [show Try.zeroCells146.setIfInBounds 72 (.bool true) = (th0.map Value.bool).toArray from by kernel_rfl] at h)
  have HC3 : Hid (Chg (· = k3) w2 (w2.setCell ⟨k3, 72, none⟩ (.bool true))) := Lib.hid (cell_chg w2 k3 72 _)
  go_upto_region 3 with fail
  generalize hw3 : World.setCell w2 _ _ = w3
  rw [hw3] at HB3 HC3
  have HLT : Hid (k1 = w.heap.size ∧ w.heap.size + 1 ≤ w1.heap.size ∧ k3 = w1.heap.size + 1 ∧ k3 < w2.heap.size) := Lib.hid ⟨HK1.out, by have := HB1.out.lt; have := HK1.out; omega, HK3.out, HB2.out.lt⟩
  clear hw3 z0 y0 yl HB2
  have HBX3 := Lib.hid ((HB1.out.ext HX12.out).chg HC3.out (by have := HLT.out; omega))
  have HO3 : Hid (OwnD w3 w.heap.size (.slice (some ⟨w1.heap.size, 0, none⟩) 0 0) []) := Lib.hid (own_chg HO2'.out HC3.out (by
    intro k hk e
    have e1 : w1.heap.size = k := by cases hk; rfl
    have e2 : k = k3 := e
    have := HLT.out
    omega))
  have HX3 : Hid (Ext w w3) := Lib.hid (Chg.to_ext (HX1.out.trans HX12.out) HC3.out (fun i h => by have := HLT.out; have h' : i = k3 := h; omega))
  go_wp2
  go_loopw [5] (fun i wr => ∃ (k : Nat) (th : List Bool), k ≤ n.beds.length ∧ k ≤ 30 ∧ i = .int .i64 k ∧ ThOk th ∧ Blk wr k3 (th.map Value.bool).toArray ∧ Chg (· = k3) w3 wr) (fun i _ => n.beds.length - (intOf i).toNat)
  case atStart => exact ⟨0, th0, Nat.zero_le _, Nat.zero_le _, rfl, ThOk.start, HB3.out, Chg.refl _ _⟩
  case round =>
    obtain ⟨k, th, hk, hk30, rfl, hth, hb, hc⟩ := hrel
    obtain ⟨w4, rfl⟩ : ∃ x, x = wr := ⟨_, rfl⟩
    have HTH := Lib.hid hth
    have HB4 := Lib.hid hb
    have HC4 := Lib.hid hc
    clear hth hb hc
    have hbx := HBX3.out.chg HC4.out (by have := HLT.out; omega)
    have e0 := hbx.cell 0 (v := .slice ba n.beds.length bc) rfl
    have el := hbx.lt
    have HLN := Lib.hid HA.out.lb
    by_cases hgo : k < n.beds.length ∧ k < 30
    · obtain ⟨hlt, h30⟩ := hgo
      · obtain ⟨bb, oo, rfl, hcl⟩ := HA.out.beds k hlt
        have hbnd := HA.out.ib _ (List.getElem_mem hlt)
        obtain ⟨x, hxe⟩ : ∃ x : Int, n.beds[k] = x := ⟨_, rfl⟩
        rw [hxe] at hcl hbnd
        obtain ⟨m, rfl⟩ : ∃ m : Nat, x = (m : Int) := ⟨x.toNat, by omega⟩
        have hm : m < 256 := by omega
        have HX4 : Hid (Ext w w4) := Lib.hid (Chg.to_ext HX3.out HC4.out (fun i h => by have := HLT.out; have h' : i = k3 := h; omega))
        replace hcl := HX4.out.cell hcl
        have hcb := lt_of_cell hcl
        simp only at hcb
        clear hxe hbnd
        go_upto_region 6 with fail
        have a0 : ∀ y : Later w4, y.world.cell? ⟨k1, 0, none⟩ = some (.slice (some ⟨bb, oo, none⟩) n.beds.length bc) := fun y => y.ext.cell e0
        have a1 : ∀ y : Later w4, y.world.cell? ⟨bb, oo + k, none⟩ = some (.int .u8 m) := fun y => y.ext.cell hcl
        obtain ⟨f, hf⟩ : ∃ f, 1 + m % 3 = f := ⟨_, rfl⟩
        obtain ⟨g, hg⟩ : ∃ g, 1 + m / 3 % 21 = g := ⟨_, rfl⟩
        go_cut [6, 7] (fun v u wx => v = .int .i64 f ∧ u = .int .i64 g ∧ Ext w4 wx)
        case first =>
          refine wp_region_later (by kernel_rfl) (by kernel_rfl) ?_
          repeat (go_big_quiet_step (fail))
          refine wpQuiet_nil ?_
          intro w5 hw5
          obtain ⟨⟨w5, hx5⟩, rfl⟩ := hw5
          go_wp2
          go_meet
          exact ⟨by congr 1; omega, by congr 1; omega, hx5⟩
        case rest =>
          obtain ⟨hc1, hc2, hx5⟩ := hcut
          subst hc1
          subst hc2
          obtain ⟨w5, rfl⟩ : ∃ x, x = wc := ⟨_, rfl⟩
          have HX5 := Lib.hid hx5
          have HB5 := Lib.hid (HB4.out.ext hx5)
          have hj := jN_ok hm
          unfold jN at hj
          rw [hg, hf] at hj
          have hf3 : 1 ≤ f ∧ f ≤ 3 := by omega
          have hg3 : 1 ≤ g ∧ g ≤ 21 := by omega
          have HJ := Lib.hid hj
          clear hx5 a0 a1 e0 el hcl hcb hf hg hj
          obtain rfl | rfl | rfl : f = 1 ∨ f = 2 ∨ f = 3 := by omega
          · by_cases h21 : g = 21
            · subst h21
              have z0 := th_cell HB5.out HTH.out (j := 51) (by omega)
              have y0 := HB5.out.frozen (51)
              have yl := HB5.out.lt
              have HT6 := Lib.hid (HTH.out.set (j := 51) (by simpa using HJ.out.2))
              have HB6 := Lib.hid (th_set HB5.out (51))
              have HC6 := Lib.hid ((HC4.out.trans (HX5.out.chg (· = k3))).trans (cell_chg w5 k3 (51) (.bool true)))
              go_wp2
              go_roundw
              case rel => exact ⟨k + 1, _, by omega, by omega, by go_num, HT6.out, HB6.out, HC6.out⟩
              case measure => simp [intOf]; omega
            · have h21' : ¬ ((g : Int) = 21) := by omega
              have g26 : g < 26 := by omega
              have g26' : (g : Int) < 26 := by omega
              have g0' : ¬ (g : Int) < 0 := by omega
              rw [if_neg h21] at HJ
              have z0 := th_cell HB5.out HTH.out (j := 26 + g) (by omega)
              have y0 := HB5.out.frozen (26 + g)
              have yl := HB5.out.lt
              have HT6 := Lib.hid (HTH.out.set (j := 26 + g) (by simpa using HJ.out.2))
              have HB6 := Lib.hid (th_set HB5.out (26 + g))
              have HC6 := Lib.hid ((HC4.out.trans (HX5.out.chg (· = k3))).trans (cell_chg w5 k3 (26 + g) (.bool true)))
              go_wp2
              go_roundw
              case rel => exact ⟨k + 1, _, by omega, by omega, by go_num, HT6.out, HB6.out, HC6.out⟩
              case measure => simp [intOf]; omega
          · by_cases h21 : g = 21
            · subst h21
              have z0 := th_cell HB5.out HTH.out (j := 77) (by omega)
              have y0 := HB5.out.frozen (77)
              have yl := HB5.out.lt
              have HT6 := Lib.hid (HTH.out.set (j := 77) (by simpa using HJ.out.2))
              have HB6 := Lib.hid (th_set HB5.out (77))
              have HC6 := Lib.hid ((HC4.out.trans (HX5.out.chg (· = k3))).trans (cell_chg w5 k3 (77) (.bool true)))
              go_wp2
              go_roundw
              case rel => exact ⟨k + 1, _, by omega, by omega, by go_num, HT6.out, HB6.out, HC6.out⟩
              case measure => simp [intOf]; omega
            · have h21' : ¬ ((g : Int) = 21) := by omega
              have g26 : g < 26 := by omega
              have g26' : (g : Int) < 26 := by omega
              have g0' : ¬ (g : Int) < 0 := by omega
              rw [if_neg h21] at HJ
              have z0 := th_cell HB5.out HTH.out (j := 52 + g) (by omega)
              have y0 := HB5.out.frozen (52 + g)
              have yl := HB5.out.lt
              have HT6 := Lib.hid (HTH.out.set (j := 52 + g) (by simpa using HJ.out.2))
              have HB6 := Lib.hid (th_set HB5.out (52 + g))
              have HC6 := Lib.hid ((HC4.out.trans (HX5.out.chg (· = k3))).trans (cell_chg w5 k3 (52 + g) (.bool true)))
              go_wp2
              go_roundw
              case rel => exact ⟨k + 1, _, by omega, by omega, by go_num, HT6.out, HB6.out, HC6.out⟩
              case measure => simp [intOf]; omega
          · by_cases h21 : g = 21
            · subst h21
              have z0 := th_cell HB5.out HTH.out (j := 77) (by omega)
              have y0 := HB5.out.frozen (77)
              have yl := HB5.out.lt
              have HT6 := Lib.hid (HTH.out.set (j := 77) (by simpa using HJ.out.2))
              have HB6 := Lib.hid (th_set HB5.out (77))
              have HC6 := Lib.hid ((HC4.out.trans (HX5.out.chg (· = k3))).trans (cell_chg w5 k3 (77) (.bool true)))
              go_wp2
              go_roundw
              case rel => exact ⟨k + 1, _, by omega, by omega, by go_num, HT6.out, HB6.out, HC6.out⟩
              case measure => simp [intOf]; omega
            · have h21' : ¬ ((g : Int) = 21) := by omega
              have g26 : g < 26 := by omega
              have g26' : (g : Int) < 26 := by omega
              have g0' : ¬ (g : Int) < 0 := by omega
              rw [if_neg h21] at HJ
              have z0 := th_cell HB5.out HTH.out (j := 78 + g) (by omega)
              have y0 := HB5.out.frozen (78 + g)
              have yl := HB5.out.lt
              have HT6 := Lib.hid (HTH.out.set (j := 78 + g) (by simpa using HJ.out.2))
              have HB6 := Lib.hid (th_set HB5.out (78 + g))
              have HC6 := Lib.hid ((HC4.out.trans (HX5.out.chg (· = k3))).trans (cell_chg w5 k3 (78 + g) (.bool true)))
              go_wp2
              go_roundw
              case rel => exact ⟨k + 1, _, by omega, by omega, by go_num, HT6.out, HB6.out, HC6.out⟩
              case measure => simp [intOf]; omega
    · have HX4 : Hid (Ext w w4) := Lib.hid (Chg.to_ext HX3.out HC4.out (fun i h => by have := HLT.out; have h' : i = k3 := h; omega))
      have HO4 : Hid (OwnD w4 w.heap.size (.slice (some ⟨w1.heap.size, 0, none⟩) 0 0) []) := Lib.hid (own_chg HO3.out HC4.out (by
        intro k hk e
        have e1 : w1.heap.size = k := by cases hk; rfl
        have e2 : k = k3 := e
        have := HLT.out
        omega))
      go_upto_region 4 with fail
      go_cut [22] (fun v wx => v = .bool false ∧ wx = w4)
      case first =>
        by_cases hlt : k < n.beds.length
        · have h30 : ¬ k < 30 := fun h => hgo ⟨hlt, h⟩
          go_wp2
          go_meet
          exact ⟨by rw [decide_eq_false (by omega)], rfl⟩
        · go_wp2
          go_meet
          exact ⟨rfl, rfl⟩
      case rest =>
        obtain ⟨hc1, hc2⟩ := hcut
        subst hc1
        subst hc2
        rename World => w4
        clear e0 el hgo hk hk30
        go_wp2
        go_loopw [4, 8] (fun v f wr => ∃ (F : Nat) (fv : Value), (1 ≤ F ∧ F ≤ 5) ∧ fv = v ∧ f = .int .i64 F ∧ OwnD wr w.heap.size fv (mrkN th (25 * (F - 1))) ∧ (∀ q, fv.ownBlock = some q → q ≠ k3) ∧ Blk wr k3 (th.map Value.bool).toArray ∧ Ext w wr) (fun _ f _ => 5 - (intOf f).toNat)
        case atStart => exact ⟨1, _, by omega, rfl, rfl, HO4.out, fun q hq e => by
          have e1 : w1.heap.size = q := by cases hq; rfl
          have := HLT.out
          omega, HB4.out, HX4.out⟩
        case round =>
          obtain ⟨F, fv, hF, rfl, rfl, ho, hne, hb, hx⟩ := hrel
          obtain ⟨w5, rfl⟩ : ∃ x, x = wr := ⟨_, rfl⟩
          by_cases hF4 : F < 5
          · have HNE := Lib.hid hne
            have HO5 := Lib.hid ho
            have HB5 := Lib.hid hb
            have HX5 := Lib.hid hx
            have hF0 : ¬ (F : Int) < 0 := by omega
            have hF5 : (F : Int) < 5 := by omega
            clear hne ho hb hx
            go_wp2
            go_loopw [4, 9] (fun v x wr => ∃ (X : Nat) (gv : Value), (1 ≤ X ∧ X ≤ 26) ∧ gv = v ∧ x = .int .i64 X ∧ OwnD wr w.heap.size gv (mrkN th (25 * (F - 1) + (X - 1))) ∧ (∀ q, gv.ownBlock = some q → q ≠ k3) ∧ Blk wr k3 (th.map Value.bool).toArray ∧ Ext w wr) (fun _ x _ => 26 - (intOf x).toNat)
            case atStart => exact ⟨1, _, by omega, rfl, rfl, HO5.out, HNE.out, HB5.out, HX5.out⟩
            case round =>
              obtain ⟨X, gv, hX, rfl, rfl, ho, hne, hb, hx⟩ := hrel
              obtain ⟨w6, rfl⟩ : ∃ x, x = wr := ⟨_, rfl⟩
              have HNE6 := Lib.hid hne
              have HO6 := Lib.hid ho
              have HB6 := Lib.hid hb
              have HX6 := Lib.hid hx
              clear hne ho hb hx
              by_cases hX26 : X < 26
              · have HM := Lib.hid (mrkN_next (th := th) (F := F) (X := X) (by omega) (by omega))
                have z0 := th_cell HB6.out HTH.out (j := F * 26 + X) (by omega)
                have zl := HB6.out.lt
                obtain ⟨c, hcc⟩ : ∃ c, th.getD (F * 26 + X) false = c := ⟨_, rfl⟩
                rw [hcc] at z0 HM
                clear hcc
                have hX0 : ¬ (X : Int) < 0 := by omega
                have hX6 : (X : Int) < 26 := by omega
                cases c
                · have HM' : Hid (mrkN th (25 * (F - 1) + X) = mrkN th (25 * (F - 1) + (X - 1))) := Lib.hid (by rw [HM.out]; rfl)
                  go_wp2
                  go_roundw
                  case rel => exact ⟨X + 1, _, by omega, rfl, by go_num, by rw [Nat.add_sub_cancel, HM'.out]; exact HO6.out, HNE6.out, HB6.out, HX6.out⟩
                  case measure => simp [intOf]; omega
                · have HM' : Hid (mrkN th (25 * (F - 1) + X) = mrkN th (25 * (F - 1) + (X - 1)) ++ [100 * (F : Int) + (X : Int)]) := Lib.hid (by rw [HM.out]; rfl)
                  obtain ⟨o, ho⟩ : ∃ o, mrkN th (25 * (F - 1) + (X - 1)) = o := ⟨_, rfl⟩
                  have hol := mrkN_len th (25 * (F - 1) + (X - 1))
                  rw [ho] at HM' HO6 hol
                  have HOA := Lib.hid (HO6.out.ext ((Ext.refl w6).alloc (.cells #[.int .i64 (100 * (F : Int) + (X : Int))] 99)))
                  clear ho HM
                  go_wp2_with (at_builtin; refine wp_append_from rfl _ _ 25 99 _ 1 8 rfl info_bed (by kernel_rfl) rfl (by decide) w.heap.size gv o.length _ rfl HOA.out (some ⟨w6.heap.size, 0, none⟩) 1 1 [.int .i64 (100 * (F : Int) + (X : Int))] rfl (fun h => by cases h) rfl ?_ ?_ (by omega) (by omega) (by have h1 := HX6.out.size; simp; omega) ?_)
                  · first
                      | rfl
                      | (intro ad had j u hj
                         cases had
                         match j, hj with
                         | 0, hj => cases hj; rw [addr_add]; exact (Blk.new w6 _ _).cell 0 rfl)
                  intro v8 w8 hO8 hg8 hn8
                  have hch : Chg (fun q => gv.ownBlock = some q) w6 w8 := (((Ext.refl w6).alloc (.cells #[.int .i64 (100 * (F : Int) + (X : Int))] 99)).chg _).trans hg8
                  have HO8 : Hid (OwnD w8 w.heap.size v8 (mrkN th (25 * (F - 1) + X))) := Lib.hid (by rw [HM'.out]; unfold OwnD; rw [List.length_append, List.map_append]; exact hO8)
                  have HN8 : Hid (∀ q, v8.ownBlock = some q → q ≠ k3) := Lib.hid (fun q hq e => by
                    rcases hn8 q hq with h | h
                    · exact HNE6.out q h e
                    · have h1 := HB6.out.lt
                      have h2 := h.1
                      have h3 := ((Ext.refl w6).alloc (.cells #[.int .i64 (100 * (F : Int) + (X : Int))] 99)).size
                      omega)
                  have HB8 := Lib.hid (HB6.out.chg hch (fun e => HNE6.out k3 e rfl))
                  have HX8 : Hid (Ext w w8) := Lib.hid (Chg.to_ext HX6.out hch (fun i hi => (World.ownsRow.lt HO6.out i hi).1))
                  obtain ⟨ga8, gc8, rfl⟩ := HO8.out.shape
                  clear hO8 hg8 hn8 hch z0 zl
                  go_wp2
                  go_roundw
                  case rel => exact ⟨X + 1, _, by omega, rfl, by go_num, by rw [Nat.add_sub_cancel]; exact HO8.out, HN8.out, HB8.out, HX8.out⟩
                  case measure => simp [intOf]; omega
              · obtain rfl : X = 26 := by omega
                go_wp2
                go_roundw
                case rel => exact ⟨F + 1, _, by omega, rfl, by go_num, by rw [show 25 * (F + 1 - 1) = 25 * (F - 1) + (26 - 1) from by omega]; exact HO6.out, HNE6.out, HB6.out, HX6.out⟩
                case measure => simp [intOf]; omega
          · obtain rfl : F = 5 := by omega
            obtain ⟨ga, gc, rfl⟩ := ho.shape
            have HO' := Lib.hid ho
            have HXE := Lib.hid hx
            have HMK := Lib.hid (mrkN_ok HTH.out)
            clear ho hx hne hb
            go_wp2
            go_ret
            exact ⟨ga, gc, mrkN th 100, rfl, HO'.out, HMK.out.1, HMK.out.2, HXE.out⟩
end Go.Proofs.Ytmopadnkjlodnaa
