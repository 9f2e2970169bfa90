/-
  Package out: Number.
-/
import Derived.Test.YtpifdeglhalefaaOui
namespace Go.Proofs.Ytpifdeglhalefaa
open Go.RowKit Go.BigFrame
attribute [local go_sem] Oper.semAt_some Later.cell Later.frozen Lat.cell Lat.frozen NoX
theorem rwsO_mem {g : Int} {beds : List Int} {most darts : Nat} : ∀ r ∈ rwsO g beds most darts, r.length = most + 1 := by
  intro r hr
  obtain ⟨k, -, rfl⟩ := List.mem_map.1 hr
  exact rwO_len g beds most k
/-- How many ways out of a score, at a board of one's own. -/
theorem out_totalB {W : World} {base kb : Nat} {beds : List Int} {g : Int} {most darts : Nat} (h : BrdO W base kb beds g most darts) (s : Nat) (hs : s ≤ most) (hm : most ≤ 1500) (hd : 1 ≤ darts ∧ darts ≤ 20) :
    Calls Try.prog 45 #[.pointer (some ⟨kb, 0, none⟩), .int .i64 s] W fun e w' => e = .returned (.int .i64 (totO (rwsO g beds most darts) s)) ∧ Ext W w' := by
  obtain ⟨ba, bc, cv, h1, h2, h3, h4⟩ := h
  exact out_total kb base _ _ cv _ s W h2 h4 (by rw [rwsO_len]; omega) (by rw [rwsO_len]; omega) (fun r hr => by rw [rwsO_mem r hr]; omega)
set_option maxRecDepth 100000 in
set_option maxHeartbeats 8000000 in
theorem out_Number (beds : List Int) (la : Option Addr) (lc : Nat) (g : Int) (darts s : Nat) (w : World) (hc : CellsAt w .i64 la beds) (hr : rulO beds g darts = true) (hs : 1 ≤ s ∧ s ≤ 1001) :
    Calls Try.prog 43 #[.agg #[.slice la beds.length lc, .int .i64 g, .int .i64 darts], .int .i64 s] w fun e w' => e = .returned (.tuple #[.int .i64 (totO (rwsO g beds s darts) s), .int .i64 0]) ∧ Ext w w' := by
  have hp := (rul_parts hr).2.2.2
  have HNF := Lib.hid (fun W (hx : Ext w W) => out_newFinish beds la lc g darts s W (hc.ext hx) hr hs)
  clear hr hc
  go_enter Try.func43, Try.ntmps43
  go_wp2_with fail
  refine (HNF.out _ ((Ext.refl w).alloc _)).mono ?_
  rintro e w2 ⟨kb, rfl, hb, hx⟩
  have HB := Lib.hid hb
  have HX := Lib.hid (((Ext.refl w).alloc (.cells #[.slice la beds.length lc, .int .i64 g, .int .i64 darts] 74)).trans hx)
  clear hb hx HNF
  go_upto_region 2 with fail
  generalize hw3 : World.alloc w2 _ = w3
  obtain ⟨F, hF⟩ : ∃ y, y = w2.heap.size := ⟨_, rfl⟩
  rw [← hF]
  have HF : Hid (Blk w3 F #[.pointer (some ⟨kb, 0, none⟩), .slice la beds.length lc, .int .i64 g, .int .i64 darts, .int .i64 s]) := Lib.hid (by rw [← hw3, hF]; exact Blk.new _ _ _)
  have HX23 : Hid (Ext w2 w3) := Lib.hid (by rw [← hw3]; exact (Ext.refl _).alloc _)
  clear hw3 hF
  have HT := Lib.hid (out_totalB (HB.out.ext HX23.out) s (Nat.le_refl _) (by omega) (by omega))
  have f0 := HF.out.cell 0 (v := .pointer (some ⟨kb, 0, none⟩)) rfl
  have fl := HF.out.lt
  go_wp2_with fail
  refine HT.out.mono ?_
  rintro e w4 ⟨rfl, hx4⟩
  have HX4 := Lib.hid ((HX.out.trans HX23.out).trans hx4)
  clear hx4 f0 fl HT
  go_wp2
  refine bodyPost_ret (v := .tuple #[.int .i64 (totO (rwsO g beds s darts) s), .int .i64 0]) (by simp [results, Try.results43, go_sem]) rfl ⟨rfl, HX4.out⟩
end Go.Proofs.Ytpifdeglhalefaa
