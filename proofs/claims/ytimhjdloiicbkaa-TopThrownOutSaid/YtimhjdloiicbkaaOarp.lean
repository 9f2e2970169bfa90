/-
  The statement TopThrownOut, for every input (no condition).
-/
import Derived.Test.YtimhjdloiicbkaaRows
import Derived.Test.YtimhjdloiicbkaaOar
import Derived.Test.YtimhjdloiicbkaaOpw
namespace Go.Proofs.Ytimhjdloiicbkaa.topThrownOutDone
open Go.ChangeShapes Go.WideShapes Go.ChangeAt Go.RowKit
theorem okWide_array {P : Program} {r : Reach} {w : World} {base : Nat} {t : TypeId} {v : Value} {n : Nat} {e : TypeId} (ht : P.underlying t = some (.array n e)) (h : Value.okWide P w r base t v) : ∃ cs, v = .agg cs ∧ cs.size = P.cellsOf t := by
  simp only [Value.okWide, ht] at h
  obtain ⟨cs, h1, h2, _⟩ := h
  exact ⟨cs, h1, h2⟩
theorem own : ownKnob Try.prog.godebug = none := by kernel_rfl
theorem laidOut : laidOutB Try.prog = true := by kernel_rfl
set_option maxRecDepth 100000 in
set_option maxHeartbeats 2000000 in
theorem lifted (os : Os) (started : os.Started) (H : Type) (enc : TypeId × Value → H) :
    ReturnsInHanded {} Try.checked os 4 .any (Rows.topThrownOutSpec.pre6 enc Try.prog Try.f4 Rows.topThrownOutRow.domain false) (Rows.topThrownOutSpec.post enc Try.prog Try.f4 false true false false) := by
  refine returnsInHanded_of_change (C := Try.checked) own started (by kernel_rfl) Try.func4
    (ChangeSpec.witness6 (enc := enc) (C := Try.checked) false ⟨#[], #[.agg #[.int .u8 0, .int .u8 0, .int .u8 0, .int .u8 0], .agg #[.int .u16 0, .int .u16 0, .int .u16 0, .int .u16 0, .int .u16 0, .int .u16 0], .int .u8 0], []⟩ 8 (by kernel_rfl) (by kernel_rfl) (by kernel_rfl) (by kernel_rfl)) ?_
  intro W base args ds gs before hval0 hW hcnd _
  have hval : ∀ (j : Nat) t v, Try.f4.params[j]? = some t → args[j]? = some v → Value.okWide Try.prog W .any base t v := hval0
  have hW' := hW
  obtain ⟨p, q, hA0, hV, rfl, hfz, hnd⟩ := hW
  have hA : DataW.TrodAll enc Try.prog W 0 (fun _ => true) true Try.f4.params.toList args.toList ds p := hA0
  rw [Try.params4] at hA hval
  obtain ⟨v0, vs0, d0, ds0, p0, q0, hargs, rfl, rfl, h0, r0⟩ := trodAll_cons hA
  obtain ⟨v1, vs1, d1, ds1, p1, q1, rfl, rfl, rfl, h1, r1⟩ := trodAll_cons r0
  obtain ⟨v2, vs2, d2, ds2, p2, q2, rfl, rfl, rfl, h2, r2⟩ := trodAll_cons r1
  obtain ⟨rfl, rfl, rfl⟩ := trodAll_nil r2
  obtain rfl : args = #[v0, v1, v2] := by cases args; simp_all
  obtain ⟨rfl, rfl⟩ := trodVars_none hV
  have k0 := h0
  have lt0 : ∀ x ∈ p0, x.block < W.heap.size := by obtain ⟨m, hm⟩ := h0; exact DataW.trod_lt m _ _ _ hm
  have s0 := sat_arg (f := 9) (s := .pair (.int .u8) (.pair (.int .u8) (.pair (.int .u8) (.pair (.int .u8) (.nil))))) (by kernel_rfl) h0
  obtain ⟨cs0, rfl, hcs0⟩ := okWide_array Try.underlying22 (hval 0 22 v0 rfl rfl)
  obtain ⟨_, _, e0, ⟨x0, rfl, wx0⟩, _, _, rfl, ⟨x1, rfl, wx1⟩, _, _, rfl, ⟨x2, rfl, wx2⟩, _, _, rfl, ⟨x3, rfl, wx3⟩, rfl⟩ := s0
  obtain rfl : cs0 = #[.int .u8 x0, .int .u8 x1, .int .u8 x2, .int .u8 x3] := by
    have : (Value.agg cs0).cells.toList = cs0.toList := rfl
    rw [this] at e0
    cases cs0; simpa using e0
  have k1 := h1
  have lt1 : ∀ x ∈ p1, x.block < W.heap.size := by obtain ⟨m, hm⟩ := h1; exact DataW.trod_lt m _ _ _ hm
  have s1 := sat_arg (f := 9) (s := .pair (.pair (.int .u16) (.pair (.int .u16) (.nil))) (.pair (.pair (.int .u16) (.pair (.int .u16) (.nil))) (.pair (.pair (.int .u16) (.pair (.int .u16) (.nil))) (.nil)))) (by kernel_rfl) h1
  obtain ⟨cs1, rfl, hcs1⟩ := okWide_array Try.underlying47 (hval 1 47 v1 rfl rfl)
  obtain ⟨_, _, e1, ⟨_, _, rfl, ⟨z0, rfl, wz0⟩, _, _, rfl, ⟨z1, rfl, wz1⟩, rfl⟩, _, _, rfl, ⟨_, _, rfl, ⟨z2, rfl, wz2⟩, _, _, rfl, ⟨z3, rfl, wz3⟩, rfl⟩, _, _, rfl, ⟨_, _, rfl, ⟨z4, rfl, wz4⟩, _, _, rfl, ⟨z5, rfl, wz5⟩, rfl⟩, rfl⟩ := s1
  obtain rfl : cs1 = #[.int .u16 z0, .int .u16 z1, .int .u16 z2, .int .u16 z3, .int .u16 z4, .int .u16 z5] := by
    have : (Value.agg cs1).cells.toList = cs1.toList := rfl
    rw [this] at e1
    cases cs1; simpa using e1
  have k2 := h2
  have lt2 : ∀ x ∈ p2, x.block < W.heap.size := by obtain ⟨m, hm⟩ := h2; exact DataW.trod_lt m _ _ _ hm
  obtain ⟨gate, rfl, rfl, rfl, w_gate⟩ := open_int Try.underlying5 (hval 2 5 v2 rfl rfl) h2
  clear hA0 hval0
  refine (law_TopThrownOut x0 x1 x2 x3 z0 z1 z2 z3 z4 z5 gate W (u8_of_wf wx0) (u8_of_wf wx1) (u8_of_wf wx2) (u8_of_wf wx3) (u16_of_wf wz0) (u16_of_wf wz1) (u16_of_wf wz2) (u16_of_wf wz3) (u16_of_wf wz4) (u16_of_wf wz5) (u8_of_wf w_gate)).mono fun e W' ⟨he, bel⟩ => ?_
  subst he
  exact ⟨_, rfl, _, _, _, [], _, [], hW', trodAll_mk1 (shut_bool Try.underlying4 _), (trodAll_cons_mk (Below.trod laidOut (by kernel_rfl) (of_decide_eq_true (by kernel_rfl)) k0 bel lt0) (trodAll_cons_mk (Below.trod laidOut (by kernel_rfl) (of_decide_eq_true (by kernel_rfl)) k1 bel lt1) (trodAll_cons_mk (Below.trod laidOut (by kernel_rfl) (of_decide_eq_true (by kernel_rfl)) k2 bel lt2) trodAll_mk0))), rfl, Below.frame bel _, fun h => by cases h⟩
theorem over : Rows.topThrownOutRow.holds Try.pinned (OpenSpec.ofChange Rows.topThrownOutSpec) :=
  OpenClaim.holds_of_wide 4 Try.f4 rfl rfl rfl rfl rfl rfl rfl ⟨rfl, rfl, rfl, rfl, rfl⟩ rfl rfl rfl rfl rfl (by kernel_rfl) Try.func4 (by kernel_rfl)
    (of_decide_eq_true (by kernel_rfl)) (by unfold Func.isWrapper; first | (rw [if_pos (by decide +kernel)]; kernel_rfl) | (rw [if_neg (by decide +kernel)]; exact ⟨rfl, rfl⟩))
    (fun os started H enc _ => lifted os started H enc)
/-- The statement. -/
theorem proved : Rows.TopThrownOutSaid := over
#print axioms proved
end Go.Proofs.Ytimhjdloiicbkaa.topThrownOutDone
