/-
  Package mean: wanted.
-/
import Derived.Test.YtmopadnkjlodnaaMse
namespace Go.Proofs.Ytmopadnkjlodnaa
open Go.RowKit Go.BigFrame
attribute [local go_sem] Oper.semAt_some Later.cell Later.frozen
/-- The numbers of darts and tries with which an end is reached. -/
def wntS (x : Ex) (e : Int) : List Int × Int := if e = 1 then ([x.dl], -1) else if e = 2 then ([x.dh], -1) else if e = 3 then ([1, 2, 3], x.tl) else ([1, 2, 3], x.th)
def upTo (k : Nat) : List Int := (List.range k).map (fun (j : Nat) => ((j : Int) + 1))
theorem upTo_succ (k : Nat) : upTo (k + 1) = upTo k ++ [(k : Int) + 1] := by unfold upTo; rw [List.range_succ, List.map_append]; rfl
theorem upTo_len (k : Nat) : (upTo k).length = k := by simp [upTo]
theorem own_one (w : World) (x : Int) {base : Nat} (hb : base ≤ w.heap.size) : OwnI (w.alloc (.cells #[.int .i64 x] 3)) base (.slice (some ⟨w.heap.size, 0, none⟩) 1 1) [x] :=
  own_box (w := w) (m := 1) (cs := #[.int .i64 x]) hb (by decide) rfl
theorem OwnI.shape {w : World} {base : Nat} {v : Value} {xs : List Int} (h : OwnI w base v xs) : ∃ a c, v = .slice a xs.length c := own_shape h
set_option maxRecDepth 100000 in
set_option maxHeartbeats 4000000 in
theorem mean_wanted (x : Ex) (en : Int) (w : World) :
    Calls Try.prog 58 #[.agg #[.int .i64 x.dl, .int .i64 x.dh, .int .i64 x.tl, .int .i64 x.th], .int .i64 en] w fun e w' => ∃ v, e = .returned (.tuple #[v, .int .i64 (wntS x en).2]) ∧ OwnI w' w.heap.size v (wntS x en).1 ∧ Ext w w' := by
  obtain ⟨R, hR⟩ : ∃ r, wntS x en = r := ⟨_, rfl⟩
  rw [hR]
  have HR := Lib.hid hR
  clear hR
  go_enter Try.func58, Try.ntmps58
  go_upto_region 1 with fail
  obtain ⟨w1, hw1⟩ : ∃ y, y = w.alloc (.cells #[.int .i64 x.dl, .int .i64 x.dh, .int .i64 x.tl, .int .i64 x.th] 45) := ⟨_, rfl⟩
  rw [← hw1]
  have HX1 : Hid (Ext w w1) := Lib.hid (by rw [hw1]; exact (Ext.refl w).alloc _)
  have HB1 : Hid (Blk w1 w.heap.size #[.int .i64 x.dl, .int .i64 x.dh, .int .i64 x.tl, .int .i64 x.th]) := Lib.hid (by rw [hw1]; exact Blk.new _ _ _)
  clear hw1
  go_wp2
  go_loopw [4, 7] (fun v i wr => ∃ k : Nat, k ≤ 3 ∧ i = .int .i64 k ∧ OwnI wr w1.heap.size v (upTo k) ∧ Ext w1 wr) (fun _ i _ => 3 - (intOf i).toNat)
  case atStart => exact ⟨0, by omega, rfl, OwnI.nil _ _, Ext.refl _⟩
  case round =>
    obtain ⟨k, hk, rfl, ho, hx⟩ := hrel
    obtain ⟨va, vc, rfl⟩ := ho.shape
    rw [upTo_len] at ho ⊢
    have HO := Lib.hid ho
    have HX := Lib.hid hx
    have HSZ : Hid (w1.heap.size ≤ wr.heap.size) := Lib.hid hx.size
    clear ho hx
    by_cases hlt : k < 3
    · have hw' : wrap64 ((k : Int) + 1) = (k : Int) + 1 := wrap64_in' ⟨by omega, by omega⟩
      have hlt' : (k : Int) < 3 := by omega
      go_wp2_with (at_builtin; refine wp_append_i rfl _ _ rfl w1.heap.size _ (upTo k) rfl (HO.out.ext ((Ext.refl wr).alloc _)) ⟨wr.heap.size, 0, none⟩ 1 ((k : Int) + 1) rfl (by simp [go_sem]) (by rw [upTo_len]; omega) (by have := HSZ.out; simp; omega) ?_)
      intro v' w2 ho2 hg2
      rw [← upTo_succ] at ho2
      have hx2 : Ext w1 w2 := Chg.to_ext (HX.out.alloc _) (grown_chg hg2) (fun i hi => (World.ownsRow.lt HO.out i hi).1)
      obtain ⟨va', vc', rfl⟩ := ho2.shape
      rw [upTo_len] at ho2 ⊢
      go_wp2
      go_roundw
      case rel => exact ⟨k + 1, by omega, by go_num, ho2, hx2⟩
      case measure => simp [intOf]; omega
    · obtain rfl : k = 3 := by omega
      have HXW := Lib.hid (HX1.out.trans HX.out)
      have HBW := Lib.hid (HB1.out.ext HX.out)
      have HOF : Hid (OwnI wr w.heap.size (.slice va 3 vc) [1, 2, 3]) := Lib.hid (own_mono HO.out HX1.out.size)
      have b0 := HBW.out.cell 0 (v := .int .i64 x.dl) rfl
      have b1 := HBW.out.cell 1 (v := .int .i64 x.dh) rfl
      have b2 := HBW.out.cell 2 (v := .int .i64 x.tl) rfl
      have b3 := HBW.out.cell 3 (v := .int .i64 x.th) rfl
      have bl := HBW.out.lt
      by_cases h1 : en = 1
      · subst h1
        have HE : Hid (R = ([x.dl], -1)) := Lib.hid (by rw [← HR.out]; rfl)
        go_wp2
        refine bodyPost_ret (v := .tuple #[.slice (some ⟨wr.heap.size, 0, none⟩) 1 1, .int .i64 (-1)]) (by simp [results, Try.results58, go_sem]) rfl ⟨_, by rw [HE.out], by rw [HE.out]; exact own_one wr x.dl HXW.out.size, HXW.out.alloc _⟩
      by_cases h2 : en = 2
      · subst h2
        have HE : Hid (R = ([x.dh], -1)) := Lib.hid (by rw [← HR.out]; rfl)
        clear h1
        go_wp2
        refine bodyPost_ret (v := .tuple #[.slice (some ⟨wr.heap.size, 0, none⟩) 1 1, .int .i64 (-1)]) (by simp [results, Try.results58, go_sem]) rfl ⟨_, by rw [HE.out], by rw [HE.out]; exact own_one wr x.dh HXW.out.size, HXW.out.alloc _⟩
      have y2 : ∀ y : Later wr, y.world.cell? ⟨w.heap.size, 2, none⟩ = some (.int .i64 x.tl) := fun y => (HBW.out.ext y.ext).cell 2 rfl
      have y3 : ∀ y : Later wr, y.world.cell? ⟨w.heap.size, 3, none⟩ = some (.int .i64 x.th) := fun y => (HBW.out.ext y.ext).cell 3 rfl
      by_cases h3 : en = 3
      · subst h3
        have HE : Hid (R = ([1, 2, 3], x.tl)) := Lib.hid (by rw [← HR.out]; rfl)
        clear h1 h2
        go_upto_region 12 with fail
        refine wp_region_later (by kernel_rfl) (by kernel_rfl) ?_
        repeat (go_big_quiet_step (fail))
        refine wpQuiet_nil ?_
        intro w5 hw5
        obtain ⟨⟨w5, hx5⟩, rfl⟩ := hw5
        have HX5 := Lib.hid hx5
        clear hx5 b0 b1 b2 b3 bl y2 y3
        go_wp2
        refine bodyPost_ret (v := .tuple #[.slice va 3 vc, .int .i64 x.tl]) (by simp [results, Try.results58, go_sem]) rfl ⟨_, by rw [HE.out], by rw [HE.out]; exact HOF.out.ext HX5.out, HXW.out.trans HX5.out⟩
      have HE : Hid (R = ([1, 2, 3], x.th)) := Lib.hid (by rw [← HR.out]; unfold wntS; rw [if_neg h1, if_neg h2, if_neg h3])
      go_upto_region 13 with fail
      refine wp_region_later (by kernel_rfl) (by kernel_rfl) ?_
      repeat (go_big_quiet_step (fail))
      refine wpQuiet_nil ?_
      intro w5 hw5
      obtain ⟨⟨w5, hx5⟩, rfl⟩ := hw5
      have HX5 := Lib.hid hx5
      clear hx5 b0 b1 b2 b3 bl y2 y3
      go_wp2
      refine bodyPost_ret (v := .tuple #[.slice va 3 vc, .int .i64 x.th]) (by simp [results, Try.results58, go_sem]) rfl ⟨_, by rw [HE.out], by rw [HE.out]; exact HOF.out.ext HX5.out, HXW.out.trans HX5.out⟩
end Go.Proofs.Ytmopadnkjlodnaa
