/-
  Package out: Bogeys.
-/
import Derived.Test.YtpifdeglhalefaaOuj
namespace Go.Proofs.Ytpifdeglhalefaa
open Go.RowKit Go.BigFrame
attribute [local go_sem] Oper.semAt_some Later.cell Later.frozen Lat.cell Lat.frozen NoX
set_option maxHeartbeats 1000000 in
theorem out_checkMost (beds : List Int) (la : Option Addr) (lc : Nat) (g : Int) (darts most : Nat) (w : World) (hc : CellsAt w .i64 la beds) (hr : rulO beds g darts = true) (hm : most ≤ 1001) :
    Calls Try.prog 39 #[.agg #[.slice la beds.length lc, .int .i64 g, .int .i64 darts], .int .i64 most] w fun e w' => e = .returned (.int .i64 0) ∧ Ext w w' := by
  have hv := rul_wrt hr
  have HCK := Lib.hid (fun W (hx : Ext w W) => out_Check beds g darts la lc W (hc.ext hx) (by have := hv.1; omega) (fun x hx => (hv.2 x hx).1))
  rw [rulE_ok hr] at HCK
  clear hv hr hc
  go_enter Try.func39, Try.ntmps39
  go_wp2_with fail
  refine (HCK.out _ ((Ext.refl w).alloc _)).mono ?_
  rintro e w2 ⟨rfl, hx2⟩
  have HX2 := Lib.hid (((Ext.refl w).alloc (.cells #[.slice la beds.length lc, .int .i64 g, .int .i64 darts] 74)).trans hx2)
  clear hx2 HCK
  go_wp2_with fail
  refine (out_within_1 _ _ _ _ _ (by simp)).mono ?_
  rintro e w3 ⟨rfl, hx3⟩
  have hin : ins 0 1001 [(most : Int)] = true := insO_one.2 (by omega)
  rw [hin]
  go_wp2
  go_ret
  exact ⟨rfl, HX2.out.trans hx3⟩
end Go.Proofs.Ytpifdeglhalefaa
