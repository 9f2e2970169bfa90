/-
  The statement MeanOrders, for every input (no condition).
-/
import Derived.Test.YtmopadnkjlodnaaRows
import Derived.Test.YtmopadnkjlodnaaNrj
import Derived.Test.YtmopadnkjlodnaaOpw
import Derived.Test.YtmopadnkjlodnaaOpn
namespace Go.Proofs.Ytmopadnkjlodnaa.meanOrdersDone
open Go.ChangeShapes Go.WideShapes Go.ChangeAt Go.RowKit
theorem okWide_array {P : Program} {r : Reach} {w : World} {base : Nat} {t : TypeId} {v : Value} {n : Nat} {e : TypeId} (ht : P.underlying t = some (.array n e)) (h : Value.okWide P w r base t v) : ∃ cs, v = .agg cs ∧ cs.size = P.cellsOf t := by
  simp only [Value.okWide, ht] at h
  obtain ⟨cs, h1, h2, _⟩ := h
  exact ⟨cs, h1, h2⟩
theorem own : ownKnob Try.prog.godebug = none := by kernel_rfl
theorem laidOut : laidOutB Try.prog = true := by kernel_rfl
set_option maxRecDepth 100000 in
set_option maxHeartbeats 2000000 in
theorem lifted (os : Os) (started : os.Started) (H : Type) (enc : TypeId × Value → H) :
    ReturnsInHanded {} Try.checked os 10 .any (Rows.meanOrdersSpec.pre6 enc Try.prog Try.f10 Rows.meanOrdersRow.domain false) (Rows.meanOrdersSpec.post enc Try.prog Try.f10 false true false false) := by
  refine returnsInHanded_of_change (C := Try.checked) own started (by kernel_rfl) Try.func10
    (ChangeSpec.witness6 (enc := enc) (C := Try.checked) false ⟨#[], #[.agg #[.int .u16 0, .int .u16 0, .int .u16 0, .int .u16 0, .int .u16 0, .int .u16 0, .int .u16 0, .int .u16 0, .int .u16 0, .int .u16 0, .int .u16 0, .int .u16 0]], []⟩ 8 (by kernel_rfl) (by kernel_rfl) (by kernel_rfl) (by kernel_rfl)) ?_
  intro W base args ds gs before hval0 hW hcnd _
  have hval : ∀ (j : Nat) t v, Try.f10.params[j]? = some t → args[j]? = some v → Value.okWide Try.prog W .any base t v := hval0
  have hW' := hW
  obtain ⟨p, q, hA0, hV, rfl, hfz, hnd⟩ := hW
  have hA : DataW.TrodAll enc Try.prog W 0 (fun _ => true) true Try.f10.params.toList args.toList ds p := hA0
  rw [Try.params10] at hA hval
  obtain ⟨v0, vs0, d0, ds0, p0, q0, hargs, rfl, rfl, h0, r0⟩ := trodAll_cons hA
  obtain ⟨rfl, rfl, rfl⟩ := trodAll_nil r0
  obtain rfl : args = #[v0] := by cases args; simp_all
  obtain ⟨rfl, rfl⟩ := trodVars_none hV
  have k0 := h0
  have lt0 : ∀ x ∈ p0, x.block < W.heap.size := by obtain ⟨m, hm⟩ := h0; exact DataW.trod_lt m _ _ _ hm
  have s0 := sat_arg (f := 9) (s := .pair (.pair (.int .u16) (.pair (.int .u16) (.nil))) (.pair (.pair (.int .u16) (.pair (.int .u16) (.nil))) (.pair (.pair (.int .u16) (.pair (.int .u16) (.nil))) (.pair (.pair (.int .u16) (.pair (.int .u16) (.nil))) (.pair (.pair (.int .u16) (.pair (.int .u16) (.nil))) (.pair (.pair (.int .u16) (.pair (.int .u16) (.nil))) (.nil))))))) (by kernel_rfl) h0
  obtain ⟨cs0, rfl, hcs0⟩ := okWide_array Try.underlying89 (hval 0 89 v0 rfl rfl)
  obtain ⟨_, _, e0, ⟨_, _, rfl, ⟨z0, rfl, wz0⟩, _, _, rfl, ⟨z1, rfl, wz1⟩, rfl⟩, _, _, rfl, ⟨_, _, rfl, ⟨z2, rfl, wz2⟩, _, _, rfl, ⟨z3, rfl, wz3⟩, rfl⟩, _, _, rfl, ⟨_, _, rfl, ⟨z4, rfl, wz4⟩, _, _, rfl, ⟨z5, rfl, wz5⟩, rfl⟩, _, _, rfl, ⟨_, _, rfl, ⟨z6, rfl, wz6⟩, _, _, rfl, ⟨z7, rfl, wz7⟩, rfl⟩, _, _, rfl, ⟨_, _, rfl, ⟨z8, rfl, wz8⟩, _, _, rfl, ⟨z9, rfl, wz9⟩, rfl⟩, _, _, rfl, ⟨_, _, rfl, ⟨za, rfl, wza⟩, _, _, rfl, ⟨zb, rfl, wzb⟩, rfl⟩, rfl⟩ := s0
  obtain rfl : cs0 = #[.int .u16 z0, .int .u16 z1, .int .u16 z2, .int .u16 z3, .int .u16 z4, .int .u16 z5, .int .u16 z6, .int .u16 z7, .int .u16 z8, .int .u16 z9, .int .u16 za, .int .u16 zb] := by
    have : (Value.agg cs0).cells.toList = cs0.toList := rfl
    rw [this] at e0
    cases cs0; simpa using e0
  clear hA0 hval0
  refine (law_MeanOrders z0 z1 z2 z3 z4 z5 z6 z7 z8 z9 za zb (u16_of_wf wz0) (u16_of_wf wz1) (u16_of_wf wz2) (u16_of_wf wz3) (u16_of_wf wz4) (u16_of_wf wz5) (u16_of_wf wz6) (u16_of_wf wz7) (u16_of_wf wz8) (u16_of_wf wz9) (u16_of_wf wza) (u16_of_wf wzb) W).mono fun e W' ⟨he, bel⟩ => ?_
  subst he
  exact ⟨_, rfl, _, _, _, [], _, [], hW', trodAll_mk1 (shut_bool Try.underlying4 _), (trodAll_cons_mk (Below.trod laidOut (by kernel_rfl) (of_decide_eq_true (by kernel_rfl)) k0 bel lt0) trodAll_mk0), rfl, Below.frame bel _, fun h => by cases h⟩
theorem over : Rows.meanOrdersRow.holds Try.pinned (OpenSpec.ofChange Rows.meanOrdersSpec) :=
  OpenClaim.holds_of_wide 10 Try.f10 rfl rfl rfl rfl rfl rfl rfl ⟨rfl, rfl, rfl, rfl, rfl⟩ rfl rfl rfl rfl rfl (by kernel_rfl) Try.func10 (by kernel_rfl)
    (of_decide_eq_true (by kernel_rfl)) (by unfold Func.isWrapper; first | (rw [if_pos (by decide +kernel)]; kernel_rfl) | (rw [if_neg (by decide +kernel)]; exact ⟨rfl, rfl⟩))
    (fun os started H enc _ => lifted os started H enc)
/-- The statement. -/
theorem proved : Rows.MeanOrdersSaid := over
#print axioms proved
end Go.Proofs.Ytmopadnkjlodnaa.meanOrdersDone
