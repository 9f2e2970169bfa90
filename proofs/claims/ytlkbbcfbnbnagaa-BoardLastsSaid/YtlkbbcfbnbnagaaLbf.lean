/-
  The statements of chapter 1: the board that bytes make, whole.
-/
import Derived.Test.YtlkbbcfbnbnagaaLbe
import Derived.Deep.CutBlock
namespace Go.Proofs.Ytlkbbcfbnbnagaa
open Go.RowKit Go.BigFrame
attribute [local go_sem] Later.cell Later.frozen Lat.cell Lat.frozen
set_option maxRecDepth 100000 in
set_option maxHeartbeats 4000000 in
theorem law_made (x : Mad) (ra la : Option Addr) (rc lc : Nat) (w : World) (hf : x.fits) (hr : CellsAt w .u8 ra x.rings) (hl : CellsAt w .u8 la x.lines) (hrl : x.rings.length ≤ maxLen) (hll : x.lines.length ≤ maxLen) :
    Calls Try.prog 18 #[.agg (x.cells ra la rc lc)] w fun e w' => ∃ v', e = .returned (.agg (v'.cells (madeB x))) ∧ BrdAt w' v' (madeB x) ∧ BrdNil v' (madeB x) ∧ Fre v' w.heap.size ∧ Ext w w' := by
  have HF := Lib.hid hf
  have HR := Lib.hid hr
  have HL := Lib.hid hl
  have HX := Lib.hid (show x = x from rfl)
  unfold maxLen at hrl hll
  unfold Mad.cells
  clear hr hl
  go_enter Try.func18, Try.ntmps18
  obtain ⟨hf1, hf2⟩ := hf.f
  obtain ⟨hw1, hw2⟩ := hf.w
  clear hf
  go_upto_block 0 with fail
  obtain ⟨wi, hwi⟩ : ∃ c, x.wire % 4 = c := ⟨_, rfl⟩
  obtain ⟨eye, heye⟩ : ∃ c, eyeM x = c := ⟨_, rfl⟩
  obtain ⟨bull, hbull⟩ : ∃ c, bullM x = c := ⟨_, rfl⟩
  have heye' : x.wire % 4 + 5 + x.first % 40 = eye := heye
  have hbull' : x.wire % 4 + 5 + x.first % 40 + 2 * (x.wire % 4) + 1 + x.first = bull := hbull
  rw [hbull', heye', hwi]
  have HWI := Lib.hid hwi
  have HEY := Lib.hid heye
  have HBU := Lib.hid hbull
  have hwi0 : 0 ≤ wi ∧ wi ≤ 3 := by omega
  clear heye hbull heye' hbull' hwi
  obtain ⟨w0, hw0⟩ : ∃ y, y = ((w.alloc (.cells #[.slice ra x.rings.length rc, .slice la x.lines.length lc, .int .u8 x.first, .int .u8 x.wire] 45)).alloc (.cells #[.int .i64 0, .int .i64 0, .slice none 0 0, .slice none 0 0, .slice none 0 0, .int .i64 0] 26)).alloc (.cells #[.int .i64 eye, .int .i64 bull, .slice none 0 0, .slice none 0 0, .slice none 0 0, .int .i64 wi] 26) := ⟨_, rfl⟩
  rw [← hw0]
  have hx0 : Ext w w0 := by rw [hw0]; exact (((Ext.refl w).alloc _).alloc _).alloc _
  have hbx : Blk w0 w.heap.size #[.slice ra x.rings.length rc, .slice la x.lines.length lc, .int .u8 x.first, .int .u8 x.wire] := by rw [hw0]; exact ((Blk.new _ _ _).alloc _).alloc _
  have hbz : Blk w0 (w.heap.size + 1) #[.int .i64 0, .int .i64 0, .slice none 0 0, .slice none 0 0, .slice none 0 0, .int .i64 0] := by rw [hw0]; exact (Blk.at _ (by simp)).alloc _
  have hF0 : Frm (w.heap.size + 2) [Res.blk (w.heap.size + 2) #[.int .i64 eye, .int .i64 bull, .slice none 0 0, .slice none 0 0, .slice none 0 0, .int .i64 wi], Res.own (w.heap.size + 2) 88 2 (.slice none 0 0) 0 []] w0 := by
    have hf0 := Frm.nones (w.heap.size + 2) 2 ((w.alloc (.cells #[.slice ra x.rings.length rc, .slice la x.lines.length lc, .int .u8 x.first, .int .u8 x.wire] 45)).alloc (.cells #[.int .i64 0, .int .i64 0, .slice none 0 0, .slice none 0 0, .slice none 0 0, .int .i64 0] 26))
    have h1 := hf0.set 0 (r := Res.none) (r' := Res.blk (w.heap.size + 2) #[.int .i64 eye, .int .i64 bull, .slice none 0 0, .slice none 0 0, .slice none 0 0, .int .i64 wi]) rfl (((Ext.refl _).alloc (.cells #[.int .i64 eye, .int .i64 bull, .slice none 0 0, .slice none 0 0, .slice none 0 0, .int .i64 wi] 26)).chg _) (Blk.at _ (by simp)) (fun k hk => .inr (by have hk' : k = w.heap.size + 2 := hk; subst hk'; simp)) (by simp)
    have h2 := h1.set 1 (r := Res.none) (r' := Res.own (w.heap.size + 2) 88 2 (.slice none 0 0) 0 []) rfl (Chg.refl _ _) (World.ownsRow_nil _ _ _ _) (fun k hk => by cases hk) (by simp)
    rw [hw0]
    exact h2
  have HX0 := Lib.hid hx0
  have HBX := Lib.hid hbx
  have HBZ := Lib.hid hbz
  have HF0 := Lib.hid hF0
  have hsz0 : w.heap.size + 2 ≤ w0.heap.size := by have := (hF0.lt 0 rfl (w.heap.size + 2) rfl).2; omega
  have HSM := Lib.hid (lastM_small HF.out)
  have HBS := Lib.hid (fun k => byAt_small HF.out.r k)
  clear hw0 hx0 hbx hbz hF0
  go_cut [4, 5, 6] from 40 to 82 (fun _ _ _ wx => ∃ v, Frm (w.heap.size + 2) [Res.blk (w.heap.size + 2) #[.int .i64 eye, .int .i64 bull, v, .slice none 0 0, .slice none 0 0, .int .i64 wi], Res.own (w.heap.size + 2) 88 2 v (rnM x) ((rgsM x (rnM x)).flatMap Rg.cells)] wx ∧ Chg (fun j => w.heap.size + 2 ≤ j) w0 wx)
  case first =>
    go_wp2
    go_loopw [4, 5] (fun la i wr => ∃ k : Nat, k ≤ rnM x ∧ la = .int .i64 (lastM x k) ∧ i = .int .i64 k ∧ ∃ v, Frm (w.heap.size + 2) [Res.blk (w.heap.size + 2) #[.int .i64 eye, .int .i64 bull, v, .slice none 0 0, .slice none 0 0, .int .i64 wi], Res.own (w.heap.size + 2) 88 2 v k ((rgsM x k).flatMap Rg.cells)] wr ∧ Chg (fun j => w.heap.size + 2 ≤ j) w0 wr) (fun _ i _ => 5 - (intOf i).toNat)
    case atStart => exact ⟨0, Nat.zero_le _, by rw [← HBU.out]; rfl, rfl, _, HF0.out, Chg.refl _ w0⟩
    case round =>
      obtain ⟨k, hk, rfl, rfl, v, hF1, hx1⟩ := hrel
      have HF1 := Lib.hid hF1
      have HX1 := Lib.hid hx1
      obtain ⟨va, vc, rfl⟩ := own_shape (hF1.get 1 rfl)
      have hbX := HBX.out.chg hx1 (by omega)
      have HXW := Lib.hid (Chg.to_ext HX0.out hx1 (fun i hi => by omega))
      have x0 := hbX.cell 0 (v := .slice ra x.rings.length rc) rfl
      have hxl := hbX.lt
      have hbB := hF1.get 0 rfl
      have b2 := hbB.cell 2 (v := .slice va k vc) rfl
      have b5 := hbB.cell 5 (v := .int .i64 wi) rfl
      have hbl := hbB.lt
      have hf2' := hbB.frozen 2
      obtain ⟨hl0, hl1⟩ := HSM.out k
      obtain ⟨hy0, hy1⟩ := HBS.out k
      have hk5 : k ≤ 5 := by unfold rnM at hk; split at hk <;> omega
      have hlsucc : lastM x (k + 1) = lastM x k + (2 * wi + 1 + byAt x.rings k) := by rw [← HWI.out]; rfl
      have hcells := rgsM_succ x k
      rw [HWI.out] at hcells
      have HLS := Lib.hid hlsucc
      have HCL := Lib.hid hcells
      have hb0 : byAt x.rings k = if h : k < x.rings.length then x.rings[k] else 0 := by
        unfold byAt
        rw [List.getD_eq_getElem?_getD]
        split
        · rename_i h; rw [List.getElem?_eq_getElem h]; rfl
        · rename_i h; rw [List.getElem?_eq_none (by omega)]; rfl
      have HB0 := Lib.hid hb0
      clear hF1 hx1 hbX hbB hlsucc hcells hb0
      generalize lastM x k = lst at *
      generalize byAt x.rings k = b at *
      by_cases hlt : k < rnM x
      · have hk4 : k < 5 := by unfold rnM at hlt; split at hlt <;> omega
        have hcase : (k < x.rings.length ∧ k < 5 ∧ ((k : Int) == 0) = true) ∨ (k < x.rings.length ∧ k < 5 ∧ ((k : Int) == 0) = false) ∨ (x.rings.length = 0 ∧ ((k : Int) == 0) = true) := by
          unfold rnM at hlt
          split at hlt
          · right; right; exact ⟨by assumption, by simp; omega⟩
          · rcases Nat.eq_zero_or_pos k with h | h
            · left; exact ⟨by omega, by omega, by simp; omega⟩
            · right; left; exact ⟨by omega, by omega, by simp; omega⟩
        rcases hcase with ⟨hc1, hc2, hc3⟩ | ⟨hc1, hc2, hc3⟩ | ⟨hc1, hc3⟩
        · obtain ⟨rb, ro, e, c0⟩ := HR.out k hc1
          subst e
          replace c0 := HXW.out.cell c0
          have hrbl := lt_of_cell c0
          simp only at hrbl
          have hbk : x.rings[k] = b := by have := HB0.out; rw [dif_pos hc1] at this; exact this.symm
          rw [hbk] at c0
          go_wp2_with (at_builtin; refine wp_append_from rfl _ _ 22 88 _ 2 16 rfl info_rg (by kernel_rfl) rfl (by decide) (w.heap.size + 2) _ k _ rfl (HF1.out.ext ((Ext.refl wr).alloc _) |>.get 1 rfl) (some ⟨wr.heap.size, 0, none⟩) 1 1 [.int .i64 (lst + (2 * wi + 1 + b)), .int .i64 (b % 5)] rfl (fun h => by cases h) rfl (fun ad e j u hu => by cases e; rw [addr_add, Nat.zero_add]; exact (Blk.new wr _ _).cell j (by simpa using hu)) (rg_one [⟨lst + (2 * wi + 1 + b), b % 5⟩]) (by omega) (by decide) (by have := HX1.out.size; simp; omega) ?_)
          intro v' w4 ho4 hC4 hn4
          obtain ⟨av, ac, rfl⟩ := own_shape ho4
          have hF4 := (HF1.out.ext ((Ext.refl wr).alloc (.cells #[.int .i64 (lst + (2 * wi + 1 + b)), .int .i64 (b % 5)] 88))).set 1 (r' := Res.own (w.heap.size + 2) 88 2 (.slice av (k + 1) ac) (k + 1) ((rgsM x (k + 1)).flatMap Rg.cells)) rfl hC4 (by rw [HCL.out]; exact ho4) (fun j hj => by have h := hn4 j hj; rw [World.size_alloc]; exact h) (by have := HX1.out.size; simp; omega)
          have hX4 : Chg (fun j => w.heap.size + 2 ≤ j) w0 w4 := (HX1.out.alloc _).trans (hC4.mono fun i _ hi => ((HF1.out.ext ((Ext.refl wr).alloc (.cells #[.int .i64 (lst + (2 * wi + 1 + b)), .int .i64 (b % 5)] 88))).lt 1 rfl i hi).1)
          have HX4 := Lib.hid hX4
          have HF4 := Lib.hid hF4
          have hbB4 := hF4.get 0 rfl
          have g2 := hbB4.frozen 2
          have g2' := hbB4.cell 2 (v := .slice va k vc) rfl
          have hgl := hbB4.lt
          have HF5 := Lib.hid (hF4.set 0 (w' := w4.setCell ⟨w.heap.size + 2, 2, none⟩ (.slice av (k + 1) ac)) (r' := Res.blk (w.heap.size + 2) #[.int .i64 eye, .int .i64 bull, .slice av (k + 1) ac, .slice none 0 0, .slice none 0 0, .int .i64 wi]) rfl (Chg.setCell (S := fun j => j = w.heap.size + 2) (Chg.refl _ _) (.inr rfl) _) (show Blk _ _ _ by simpa using hbB4.set 2 (.slice av (k + 1) ac)) (fun j hj => .inl hj) (by omega))
          have HX5 := Lib.hid (hX4.setCell (p := ⟨w.heap.size + 2, 2, none⟩) (.inr (Nat.le_refl _)) (.slice av (k + 1) ac))
          clear hF4 hX4 hbB4 ho4 hC4 hn4 b2 hf2'
          go_wp2
          go_roundw
          case rel => exact ⟨k + 1, by omega, by rw [HLS.out], by go_num, _, HF5.out, HX5.out⟩
          case measure => simp [intOf]; omega
        · obtain ⟨rb, ro, e, c0⟩ := HR.out k hc1
          subst e
          replace c0 := HXW.out.cell c0
          have hrbl := lt_of_cell c0
          simp only at hrbl
          have hbk : x.rings[k] = b := by have := HB0.out; rw [dif_pos hc1] at this; exact this.symm
          rw [hbk] at c0
          go_wp2_with (at_builtin; refine wp_append_from rfl _ _ 22 88 _ 2 16 rfl info_rg (by kernel_rfl) rfl (by decide) (w.heap.size + 2) _ k _ rfl (HF1.out.ext ((Ext.refl wr).alloc _) |>.get 1 rfl) (some ⟨wr.heap.size, 0, none⟩) 1 1 [.int .i64 (lst + (2 * wi + 1 + b)), .int .i64 (b % 5)] rfl (fun h => by cases h) rfl (fun ad e j u hu => by cases e; rw [addr_add, Nat.zero_add]; exact (Blk.new wr _ _).cell j (by simpa using hu)) (rg_one [⟨lst + (2 * wi + 1 + b), b % 5⟩]) (by omega) (by decide) (by have := HX1.out.size; simp; omega) ?_)
          intro v' w4 ho4 hC4 hn4
          obtain ⟨av, ac, rfl⟩ := own_shape ho4
          have hF4 := (HF1.out.ext ((Ext.refl wr).alloc (.cells #[.int .i64 (lst + (2 * wi + 1 + b)), .int .i64 (b % 5)] 88))).set 1 (r' := Res.own (w.heap.size + 2) 88 2 (.slice av (k + 1) ac) (k + 1) ((rgsM x (k + 1)).flatMap Rg.cells)) rfl hC4 (by rw [HCL.out]; exact ho4) (fun j hj => by have h := hn4 j hj; rw [World.size_alloc]; exact h) (by have := HX1.out.size; simp; omega)
          have hX4 : Chg (fun j => w.heap.size + 2 ≤ j) w0 w4 := (HX1.out.alloc _).trans (hC4.mono fun i _ hi => ((HF1.out.ext ((Ext.refl wr).alloc (.cells #[.int .i64 (lst + (2 * wi + 1 + b)), .int .i64 (b % 5)] 88))).lt 1 rfl i hi).1)
          have HX4 := Lib.hid hX4
          have HF4 := Lib.hid hF4
          have hbB4 := hF4.get 0 rfl
          have g2 := hbB4.frozen 2
          have g2' := hbB4.cell 2 (v := .slice va k vc) rfl
          have hgl := hbB4.lt
          have HF5 := Lib.hid (hF4.set 0 (w' := w4.setCell ⟨w.heap.size + 2, 2, none⟩ (.slice av (k + 1) ac)) (r' := Res.blk (w.heap.size + 2) #[.int .i64 eye, .int .i64 bull, .slice av (k + 1) ac, .slice none 0 0, .slice none 0 0, .int .i64 wi]) rfl (Chg.setCell (S := fun j => j = w.heap.size + 2) (Chg.refl _ _) (.inr rfl) _) (show Blk _ _ _ by simpa using hbB4.set 2 (.slice av (k + 1) ac)) (fun j hj => .inl hj) (by omega))
          have HX5 := Lib.hid (hX4.setCell (p := ⟨w.heap.size + 2, 2, none⟩) (.inr (Nat.le_refl _)) (.slice av (k + 1) ac))
          clear hF4 hX4 hbB4 ho4 hC4 hn4 b2 hf2'
          go_wp2
          go_roundw
          case rel => exact ⟨k + 1, by omega, by rw [HLS.out], by go_num, _, HF5.out, HX5.out⟩
          case measure => simp [intOf]; omega
        · have hbz : b = 0 := by have := HB0.out; rw [dif_neg (by omega)] at this; exact this
          have hc1' : ¬ ((k : Int) < (x.rings.length : Int)) := by omega
          have HCL' := Lib.hid (show (rgsM x (k + 1)).flatMap Rg.cells = (rgsM x k).flatMap Rg.cells ++ [.int .i64 (lst + (2 * wi + 1)), .int .i64 0] by rw [HCL.out, hbz]; simp)
          have HLS' := Lib.hid (show lastM x (k + 1) = lst + (2 * wi + 1) by rw [HLS.out, hbz]; simp)
          clear hbz hc1
          go_wp2_with (at_builtin; refine wp_append_from rfl _ _ 22 88 _ 2 16 rfl info_rg (by kernel_rfl) rfl (by decide) (w.heap.size + 2) _ k _ rfl (HF1.out.ext ((Ext.refl wr).alloc _) |>.get 1 rfl) (some ⟨wr.heap.size, 0, none⟩) 1 1 [.int .i64 (lst + (2 * wi + 1)), .int .i64 0] rfl (fun h => by cases h) rfl (fun ad e j u hu => by cases e; rw [addr_add, Nat.zero_add]; exact (Blk.new wr _ _).cell j (by simpa using hu)) (rg_one [⟨lst + (2 * wi + 1), 0⟩]) (by omega) (by decide) (by have := HX1.out.size; simp; omega) ?_)
          intro v' w4 ho4 hC4 hn4
          obtain ⟨av, ac, rfl⟩ := own_shape ho4
          have hF4 := (HF1.out.ext ((Ext.refl wr).alloc (.cells #[.int .i64 (lst + (2 * wi + 1)), .int .i64 0] 88))).set 1 (r' := Res.own (w.heap.size + 2) 88 2 (.slice av (k + 1) ac) (k + 1) ((rgsM x (k + 1)).flatMap Rg.cells)) rfl hC4 (by rw [HCL'.out]; exact ho4) (fun j hj => by have h := hn4 j hj; rw [World.size_alloc]; exact h) (by have := HX1.out.size; simp; omega)
          have hX4 : Chg (fun j => w.heap.size + 2 ≤ j) w0 w4 := (HX1.out.alloc _).trans (hC4.mono fun i _ hi => ((HF1.out.ext ((Ext.refl wr).alloc (.cells #[.int .i64 (lst + (2 * wi + 1)), .int .i64 0] 88))).lt 1 rfl i hi).1)
          have HX4 := Lib.hid hX4
          have HF4 := Lib.hid hF4
          have hbB4 := hF4.get 0 rfl
          have g2 := hbB4.frozen 2
          have g2' := hbB4.cell 2 (v := .slice va k vc) rfl
          have hgl := hbB4.lt
          have HF5 := Lib.hid (hF4.set 0 (w' := w4.setCell ⟨w.heap.size + 2, 2, none⟩ (.slice av (k + 1) ac)) (r' := Res.blk (w.heap.size + 2) #[.int .i64 eye, .int .i64 bull, .slice av (k + 1) ac, .slice none 0 0, .slice none 0 0, .int .i64 wi]) rfl (Chg.setCell (S := fun j => j = w.heap.size + 2) (Chg.refl _ _) (.inr rfl) _) (show Blk _ _ _ by simpa using hbB4.set 2 (.slice av (k + 1) ac)) (fun j hj => .inl hj) (by omega))
          have HX5 := Lib.hid (hX4.setCell (p := ⟨w.heap.size + 2, 2, none⟩) (.inr (Nat.le_refl _)) (.slice av (k + 1) ac))
          clear hF4 hX4 hbB4 ho4 hC4 hn4 b2 hf2'
          go_wp2
          go_roundw
          case rel => exact ⟨k + 1, by omega, by rw [HLS'.out], by go_num, _, HF5.out, HX5.out⟩
          case measure => simp [intOf]; omega
      · obtain rfl : k = rnM x := by omega
        have hkz : ((rnM x : Int) == 0) = false := by
          have : rnM x ≠ 0 := by unfold rnM; split <;> omega
          simp; omega
        have hkg : ¬ ((rnM x : Int) < (x.rings.length : Int)) ∨ ((rnM x : Int) < (x.rings.length : Int) ∧ ¬ ((rnM x : Int) < 5)) := by
          have hr : (x.rings.length = 0 ∧ rnM x = 1) ∨ (x.rings.length ≠ 0 ∧ rnM x = min x.rings.length 5) := by
            unfold rnM
            by_cases h : x.rings.length = 0
            · left; exact ⟨h, if_pos h⟩
            · right; exact ⟨h, if_neg h⟩
          omega
        generalize hrn : rnM x = rn at *
        clear hrn
        rcases hkg with hg1 | ⟨hg1, hg2⟩
        · go_wp2
          go_meet
          exact ⟨_, HF1.out, HX1.out⟩
        · go_wp2
          go_meet
          exact ⟨_, HF1.out, HX1.out⟩
  case rest =>
    obtain ⟨v, hF, hx⟩ := hcut
    rename_i K0 a0
    refine a0 _ _ ?_
    have hwi' := HWI.out
    have hey' := HEY.out
    have hbu' := HBU.out
    subst hwi'
    subst hey'
    subst hbu'
    exact made_tail _ (by kernel_rfl) x HF.out ra la rc lc (rnM x) (x.wire % 4) (eyeM x) (bullM x) v w w0 wc HX0 HL (by omega) HBX HBZ (Lib.hid hF) (Lib.hid hx)
end Go.Proofs.Ytlkbbcfbnbnagaa
