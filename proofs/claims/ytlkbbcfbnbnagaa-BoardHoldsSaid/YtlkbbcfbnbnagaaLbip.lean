/-
  The statement BoardHolds, for every input (no condition).
-/
import Derived.Test.YtlkbbcfbnbnagaaRows
import Derived.Test.YtlkbbcfbnbnagaaLbi
import Derived.Test.YtlkbbcfbnbnagaaOpz
import Derived.Test.YtlkbbcfbnbnagaaOpn
namespace Go.Proofs.Ytlkbbcfbnbnagaa.boardHoldsDone
open Go.ChangeShapes Go.WideShapes Go.ChangeAt Go.RowKit
theorem own : ownKnob Try.prog.godebug = none := by kernel_rfl
theorem laidOut : laidOutB Try.prog = true := by kernel_rfl
set_option maxRecDepth 100000 in
set_option maxHeartbeats 2000000 in
theorem lifted (os : Os) (started : os.Started) (H : Type) (enc : TypeId × Value → H) :
    ReturnsInHanded {} Try.checked os 4 .any (Rows.boardHoldsSpec.pre6 enc Try.prog Try.f4 Rows.boardHoldsRow.domain false) (Rows.boardHoldsSpec.post enc Try.prog Try.f4 false true false false) := by
  refine returnsInHanded_of_change (C := Try.checked) own started (by kernel_rfl) Try.func4
    (ChangeSpec.witness6 (enc := enc) (C := Try.checked) false ⟨#[], #[.agg #[.slice none 0 0, .slice none 0 0, .int .u8 0, .int .u8 0, .int .u16 0, .int .u16 0, .int .u8 0, .int .u8 0, .int .u8 0, .int .u8 0]], []⟩ 8 (by kernel_rfl) (by kernel_rfl) (by kernel_rfl) (by kernel_rfl)) ?_
  intro W base args ds gs before hval0 hW hcnd _
  have hval : ∀ (j : Nat) t v, Try.f4.params[j]? = some t → args[j]? = some v → Value.okWide Try.prog W .any base t v := hval0
  have hW' := hW
  obtain ⟨p, q, hA0, hV, rfl, hfz, hnd⟩ := hW
  have hA : DataW.TrodAll enc Try.prog W 0 (fun _ => true) true Try.f4.params.toList args.toList ds p := hA0
  rw [Try.params4] at hA hval
  obtain ⟨v0, vs0, d0, ds0, p0, q0, hargs, rfl, rfl, h0, r0⟩ := trodAll_cons hA
  obtain ⟨rfl, rfl, rfl⟩ := trodAll_nil r0
  obtain rfl : args = #[v0] := by cases args; simp_all
  obtain ⟨rfl, rfl⟩ := trodVars_none hV
  have k0 := h0
  have lt0 : ∀ x ∈ p0, x.block < W.heap.size := by obtain ⟨m, hm⟩ := h0; exact DataW.trod_lt m _ _ _ hm
  have s0 := sat_arg (f := 9) (s := boxedS) (by kernel_rfl) h0
  obtain ⟨cs0, rfl, hcs0⟩ := okWide_struct Try.underlying50 (hval 0 50 v0 rfl rfl)
  obtain ⟨mra, mrc, mla, mlc, x, z0, z1, z2, z3, z4, z5, e0, ⟨hfit, hmr, hml, hrm, hlm⟩, ⟨hv0, hv1⟩, ⟨hs0, hs1⟩, ht0, ht1⟩ := sat_boxed s0
  obtain rfl : cs0 = #[.slice mra x.rings.length mrc, .slice mla x.lines.length mlc, .int .u8 x.first, .int .u8 x.wire, .int .u16 z0, .int .u16 z1, .int .u8 z2, .int .u8 z3, .int .u8 z4, .int .u8 z5] := by
    have : (Value.agg cs0).cells.toList = cs0.toList := rfl
    rw [this] at e0
    cases cs0; simpa using e0
  clear hA0 hval0
  refine (law_BoardHolds x mra mla mrc mlc z0 z1 z2 z3 z4 z5 hfit hv0 hv1 hs0 hs1 ht0 ht1 W hmr hml hrm hlm).mono fun e W' ⟨he, bel⟩ => ?_
  subst he
  exact ⟨_, rfl, _, _, _, [], _, [], hW', trodAll_mk1 (shut_bool Try.underlying4 _), (trodAll_cons_mk (Below.trod laidOut (by kernel_rfl) (of_decide_eq_true (by kernel_rfl)) k0 bel lt0) trodAll_mk0), rfl, Below.frame bel _, fun h => by cases h⟩
theorem over : Rows.boardHoldsRow.holds Try.pinned (OpenSpec.ofChange Rows.boardHoldsSpec) :=
  OpenClaim.holds_of_wide 4 Try.f4 rfl rfl rfl rfl rfl rfl rfl ⟨rfl, rfl, rfl, rfl, rfl⟩ rfl rfl rfl rfl rfl (by kernel_rfl) Try.func4 (by kernel_rfl)
    (of_decide_eq_true (by kernel_rfl)) (by unfold Func.isWrapper; first | (rw [if_pos (by decide +kernel)]; kernel_rfl) | (rw [if_neg (by decide +kernel)]; exact ⟨rfl, rfl⟩))
    (fun os started H enc _ => lifted os started H enc)
/-- The statement. -/
theorem proved : Rows.BoardHoldsSaid := over
#print axioms proved
end Go.Proofs.Ytlkbbcfbnbnagaa.boardHoldsDone
