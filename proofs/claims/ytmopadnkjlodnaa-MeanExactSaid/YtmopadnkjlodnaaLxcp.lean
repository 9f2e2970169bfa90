/-
  The statement MeanExact, for every input (no condition).
-/
import Derived.Test.YtmopadnkjlodnaaRows
import Derived.Test.YtmopadnkjlodnaaLxc
import Derived.Test.YtmopadnkjlodnaaOpl
import Derived.Test.YtmopadnkjlodnaaOpn
namespace Go.Proofs.Ytmopadnkjlodnaa.meanExactDone
open Go.ChangeShapes Go.WideShapes Go.ChangeAt Go.RowKit
theorem own : ownKnob Try.prog.godebug = none := by kernel_rfl
theorem laidOut : laidOutB Try.prog = true := by kernel_rfl
set_option maxRecDepth 100000 in
set_option maxHeartbeats 2000000 in
theorem lifted (os : Os) (started : os.Started) (H : Type) (enc : TypeId × Value → H) :
    ReturnsInHanded {} Try.checked os 6 .any (Rows.meanExactSpec.pre6 enc Try.prog Try.f6 Rows.meanExactRow.domain false) (Rows.meanExactSpec.post enc Try.prog Try.f6 false true false false) := by
  refine returnsInHanded_of_change (C := Try.checked) own started (by kernel_rfl) Try.func6
    (ChangeSpec.witness6 (enc := enc) (C := Try.checked) false ⟨#[], #[.agg #[.int .i64 0, .int .i64 0, .int .i64 0], .slice none 0 0, .slice none 0 0], []⟩ 8 (by kernel_rfl) (by kernel_rfl) (by kernel_rfl) (by kernel_rfl)) ?_
  intro W base args ds gs before hval0 hW hcnd _
  have hval : ∀ (j : Nat) t v, Try.f6.params[j]? = some t → args[j]? = some v → Value.okWide Try.prog W .any base t v := hval0
  have hW' := hW
  obtain ⟨p, q, hA0, hV, rfl, hfz, hnd⟩ := hW
  have hA : DataW.TrodAll enc Try.prog W 0 (fun _ => true) true Try.f6.params.toList args.toList ds p := hA0
  rw [Try.params6] at hA hval
  obtain ⟨v0, vs0, d0, ds0, p0, q0, hargs, rfl, rfl, h0, r0⟩ := trodAll_cons hA
  obtain ⟨v1, vs1, d1, ds1, p1, q1, rfl, rfl, rfl, h1, r1⟩ := trodAll_cons r0
  obtain ⟨v2, vs2, d2, ds2, p2, q2, rfl, rfl, rfl, h2, r2⟩ := trodAll_cons r1
  obtain ⟨rfl, rfl, rfl⟩ := trodAll_nil r2
  obtain rfl : args = #[v0, v1, v2] := by cases args; simp_all
  obtain ⟨rfl, rfl⟩ := trodVars_none hV
  have k0 := h0
  have lt0 : ∀ x ∈ p0, x.block < W.heap.size := by obtain ⟨m, hm⟩ := h0; exact DataW.trod_lt m _ _ _ hm
  have s0 := sat_arg (f := 9) (s := .pair (.int .i64) (.pair (.int .i64) (.pair (.int .i64) (.nil)))) (by kernel_rfl) h0
  obtain ⟨cs0, rfl, hcs0⟩ := okWide_struct Try.underlying24 (hval 0 24 v0 rfl rfl)
  obtain ⟨_, _, e0, ⟨z0, rfl, wz0⟩, _, _, rfl, ⟨z1, rfl, -⟩, _, _, rfl, ⟨z2, rfl, -⟩, rfl⟩ := s0
  obtain rfl : cs0 = #[.int .i64 z0, .int .i64 z1, .int .i64 z2] := by
    have : (Value.agg cs0).cells.toList = cs0.toList := rfl
    rw [this] at e0
    cases cs0; simpa using e0
  have k1 := h1
  have lt1 : ∀ x ∈ p1, x.block < W.heap.size := by obtain ⟨m, hm⟩ := h1; exact DataW.trod_lt m _ _ _ hm
  have s1 := sat_arg (f := 9) (s := .slice 1 (.int .i64)) (by kernel_rfl) h1
  obtain ⟨a_b, len1, c_b, rfl⟩ := okWide_slice Try.underlying25 (hval 1 25 v1 rfl rfl)
  obtain ⟨a1', c1', l_b, e1, h_b⟩ := sat_bedA s1
  obtain ⟨rfl, rfl, rfl⟩ : a_b = a1' ∧ len1 = l_b.length ∧ c_b = c1' := by simpa [Value.cells] using e1
  have k2 := h2
  have lt2 : ∀ x ∈ p2, x.block < W.heap.size := by obtain ⟨m, hm⟩ := h2; exact DataW.trod_lt m _ _ _ hm
  have s2 := sat_arg (f := 9) (s := .slice 1 (.slice 1 (.int .i64))) (by kernel_rfl) h2
  obtain ⟨a_v, len2, c_v, rfl⟩ := okWide_slice Try.underlying46 (hval 2 46 v2 rfl rfl)
  obtain ⟨a2', c2', l_v, e2, h_v⟩ := sat_vsA s2
  obtain ⟨rfl, rfl, rfl⟩ : a_v = a2' ∧ len2 = l_v.length ∧ c_v = c2' := by simpa [Value.cells] using e2
  clear hA0 hval0
  refine (law_MeanExact z0 z1 z2 l_b a_b c_b l_v a_v c_v W (i64_of_wf wz0) h_b h_v).mono fun e W' ⟨he, bel⟩ => ?_
  subst he
  exact ⟨_, rfl, _, _, _, [], _, [], hW', trodAll_mk1 (shut_bool Try.underlying4 _), (trodAll_cons_mk (Below.trod laidOut (by kernel_rfl) (of_decide_eq_true (by kernel_rfl)) k0 bel lt0) (trodAll_cons_mk (Below.trod laidOut (by kernel_rfl) (of_decide_eq_true (by kernel_rfl)) k1 bel lt1) (trodAll_cons_mk (Below.trod laidOut (by kernel_rfl) (of_decide_eq_true (by kernel_rfl)) k2 bel lt2) trodAll_mk0))), rfl, Below.frame bel _, fun h => by cases h⟩
theorem over : Rows.meanExactRow.holds Try.pinned (OpenSpec.ofChange Rows.meanExactSpec) :=
  OpenClaim.holds_of_wide 6 Try.f6 rfl rfl rfl rfl rfl rfl rfl ⟨rfl, rfl, rfl, rfl, rfl⟩ rfl rfl rfl rfl rfl (by kernel_rfl) Try.func6 (by kernel_rfl)
    (of_decide_eq_true (by kernel_rfl)) (by unfold Func.isWrapper; first | (rw [if_pos (by decide +kernel)]; kernel_rfl) | (rw [if_neg (by decide +kernel)]; exact ⟨rfl, rfl⟩))
    (fun os started H enc _ => lifted os started H enc)
/-- The statement. -/
theorem proved : Rows.MeanExactSaid := over
#print axioms proved
end Go.Proofs.Ytmopadnkjlodnaa.meanExactDone
