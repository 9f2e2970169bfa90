/-
  The statement TopBoardOut, for every input (no condition).
-/
import Derived.Test.YtimhjdloiicbkaaRows
import Derived.Test.YtimhjdloiicbkaaOas
import Derived.Test.YtimhjdloiicbkaaOpw
namespace Go.Proofs.Ytimhjdloiicbkaa.topBoardOutDone
open Go.ChangeShapes Go.WideShapes Go.ChangeAt Go.RowKit
theorem own : ownKnob Try.prog.godebug = none := by kernel_rfl
theorem laidOut : laidOutB Try.prog = true := by kernel_rfl
set_option maxRecDepth 100000 in
set_option maxHeartbeats 2000000 in
theorem lifted (os : Os) (started : os.Started) (H : Type) (enc : TypeId × Value → H) :
    ReturnsInHanded {} Try.checked os 3 .any (Rows.topBoardOutSpec.pre6 enc Try.prog Try.f3 Rows.topBoardOutRow.domain false) (Rows.topBoardOutSpec.post enc Try.prog Try.f3 false true false false) := by
  refine returnsInHanded_of_change (C := Try.checked) own started (by kernel_rfl) Try.func3
    (ChangeSpec.witness6 (enc := enc) (C := Try.checked) false ⟨#[], #[.agg #[.int .u8 0, .int .u8 0, .int .u8 0, .int .u8 0, .int .u8 0, .int .u8 0, .int .u8 0]], []⟩ 8 (by kernel_rfl) (by kernel_rfl) (by kernel_rfl) (by kernel_rfl)) ?_
  intro W base args ds gs before hval0 hW hcnd _
  have hval : ∀ (j : Nat) t v, Try.f3.params[j]? = some t → args[j]? = some v → Value.okWide Try.prog W .any base t v := hval0
  have hW' := hW
  obtain ⟨p, q, hA0, hV, rfl, hfz, hnd⟩ := hW
  have hA : DataW.TrodAll enc Try.prog W 0 (fun _ => true) true Try.f3.params.toList args.toList ds p := hA0
  rw [Try.params3] at hA hval
  obtain ⟨v0, vs0, d0, ds0, p0, q0, hargs, rfl, rfl, h0, r0⟩ := trodAll_cons hA
  obtain ⟨rfl, rfl, rfl⟩ := trodAll_nil r0
  obtain rfl : args = #[v0] := by cases args; simp_all
  obtain ⟨rfl, rfl⟩ := trodVars_none hV
  have k0 := h0
  have lt0 : ∀ x ∈ p0, x.block < W.heap.size := by obtain ⟨m, hm⟩ := h0; exact DataW.trod_lt m _ _ _ hm
  have s0 := sat_arg (f := 9) (s := .pair (.pair (.int .u8) (.pair (.int .u8) (.pair (.int .u8) (.pair (.int .u8) (.nil))))) (.pair (.int .u8) (.pair (.int .u8) (.pair (.int .u8) (.nil))))) (by kernel_rfl) h0
  obtain ⟨cs0, rfl, hcs0⟩ := okWide_struct Try.underlying24 (hval 0 24 v0 rfl rfl)
  obtain ⟨_, _, e0, ⟨_, _, rfl, ⟨x0, rfl, wx0⟩, _, _, rfl, ⟨x1, rfl, wx1⟩, _, _, rfl, ⟨x2, rfl, wx2⟩, _, _, rfl, ⟨x3, rfl, wx3⟩, rfl⟩, _, _, rfl, ⟨y0, rfl, wy0⟩, _, _, rfl, ⟨y1, rfl, wy1⟩, _, _, rfl, ⟨y2, rfl, wy2⟩, rfl⟩ := s0
  obtain rfl : cs0 = #[.int .u8 x0, .int .u8 x1, .int .u8 x2, .int .u8 x3, .int .u8 y0, .int .u8 y1, .int .u8 y2] := by
    have : (Value.agg cs0).cells.toList = cs0.toList := rfl
    rw [this] at e0
    cases cs0; simpa using e0
  clear hA0 hval0
  refine (law_TopBoardOut x0 x1 x2 x3 y0 y1 y2 W (u8_of_wf wx0) (u8_of_wf wx1) (u8_of_wf wx2) (u8_of_wf wx3) (u8_of_wf wy0) (u8_of_wf wy1) (u8_of_wf wy2)).mono fun e W' ⟨he, bel⟩ => ?_
  subst he
  exact ⟨_, rfl, _, _, _, [], _, [], hW', trodAll_mk1 (shut_bool Try.underlying4 _), (trodAll_cons_mk (Below.trod laidOut (by kernel_rfl) (of_decide_eq_true (by kernel_rfl)) k0 bel lt0) trodAll_mk0), rfl, Below.frame bel _, fun h => by cases h⟩
theorem over : Rows.topBoardOutRow.holds Try.pinned (OpenSpec.ofChange Rows.topBoardOutSpec) :=
  OpenClaim.holds_of_wide 3 Try.f3 rfl rfl rfl rfl rfl rfl rfl ⟨rfl, rfl, rfl, rfl, rfl⟩ rfl rfl rfl rfl rfl (by kernel_rfl) Try.func3 (by kernel_rfl)
    (of_decide_eq_true (by kernel_rfl)) (by unfold Func.isWrapper; first | (rw [if_pos (by decide +kernel)]; kernel_rfl) | (rw [if_neg (by decide +kernel)]; exact ⟨rfl, rfl⟩))
    (fun os started H enc _ => lifted os started H enc)
/-- The statement. -/
theorem proved : Rows.TopBoardOutSaid := over
#print axioms proved
end Go.Proofs.Ytimhjdloiicbkaa.topBoardOutDone
