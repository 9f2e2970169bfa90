/-
  The statement LegVisits, for every input (no condition).
-/
import Derived.Test.YtocnglplhnhllaaRows
import Derived.Test.YtocnglplhnhllaaLvi
import Derived.Test.YtocnglplhnhllaaOpn
namespace Go.Proofs.Ytocnglplhnhllaa.legVisitsDone
open Go.ChangeShapes Go.WideShapes Go.ChangeAt Go.RowKit
theorem own : ownKnob Try.prog.godebug = none := by kernel_rfl
theorem laidOut : laidOutB Try.prog = true := by kernel_rfl
def aimS : Shp := .pair (.pair (.int .i64) (.pair (.int .i64) (.pair (.int .i64) .nil))) (.pair .bool (.pair (.int .i64) .nil))
set_option maxRecDepth 100000 in
theorem lifted (os : Os) (started : os.Started) (H : Type) (enc : TypeId × Value → H) :
    ReturnsInHanded {} Try.checked os 3 .any (Rows.legVisitsSpec.pre6 enc Try.prog Try.f3 Rows.legVisitsRow.domain false) (Rows.legVisitsSpec.post enc Try.prog Try.f3 false true false false) := by
  refine returnsInHanded_of_change (C := Try.checked) own started (by kernel_rfl) Try.func3
    (ChangeSpec.witness6 (enc := enc) (C := Try.checked) false ⟨#[], #[.agg #[.int .i64 0, .int .i64 0, .int .i64 0, .bool false, .int .i64 0], .slice none 0 0], []⟩ 8 (by kernel_rfl) (by kernel_rfl) (by kernel_rfl) (by kernel_rfl)) ?_
  intro W base args ds gs before hval0 hW hcnd _
  have hval : ∀ (j : Nat) t v, Try.f3.params[j]? = some t → args[j]? = some v → Value.okWide Try.prog W .any base t v := hval0
  have hW' := hW
  obtain ⟨p, q, hA0, hV, rfl, hfz, hnd⟩ := hW
  have hA : DataW.TrodAll enc Try.prog W 0 (fun _ => true) true Try.f3.params.toList args.toList ds p := hA0
  rw [Try.params3] at hA hval
  obtain ⟨v0, vs0, d0, ds0, p0, q0, hargs, rfl, rfl, h0, r0⟩ := trodAll_cons hA
  obtain ⟨v1, vs1, d1, ds1, p1, q1, rfl, rfl, rfl, h1, r1⟩ := trodAll_cons r0
  obtain ⟨rfl, rfl, rfl⟩ := trodAll_nil r1
  obtain rfl : args = #[v0, v1] := by cases args; simp_all
  obtain ⟨rfl, rfl⟩ := trodVars_none hV
  have lt0 : ∀ x ∈ p0, x.block < W.heap.size := by obtain ⟨m, hm⟩ := h0; exact DataW.trod_lt m _ _ _ hm
  have lt1 : ∀ x ∈ p1, x.block < W.heap.size := by obtain ⟨m, hm⟩ := h1; exact DataW.trod_lt m _ _ _ hm
  have s0 := sat_arg (f := 5) (s := aimS) (by kernel_rfl) h0
  have s1 := sat_arg (f := 5) (s := .slice 1 (.int .i64)) (by kernel_rfl) h1
  obtain ⟨cs, rfl, hcs⟩ := okWide_struct Try.underlying26 (hval 0 26 v0 rfl rfl)
  obtain ⟨a, len, cap, rfl⟩ := okWide_slice Try.underlying27 (hval 1 27 v1 rfl rfl)
  obtain ⟨_, _, e0, ⟨_, _, rfl, ⟨start, rfl, -⟩, _, _, rfl, ⟨gin, rfl, -⟩, _, _, rfl, ⟨gout, rfl, -⟩, rfl⟩, _, _, rfl, ⟨inn, rfl⟩, _, _, rfl, ⟨left, rfl, -⟩, rfl⟩ := s0
  obtain rfl : cs = #[.int .i64 start, .int .i64 gin, .int .i64 gout, .bool inn, .int .i64 left] := by
    have : (Value.agg cs).cells.toList = cs.toList := rfl
    rw [this] at e0
    cases cs; simpa using e0
  obtain ⟨a', cap', l, e1, hnil, hlen, hcells, hint⟩ := sat_ints s1
  obtain ⟨rfl, rfl, rfl⟩ : a = a' ∧ len = l.length ∧ cap = cap' := by simpa [Value.cells] using e1
  clear hA0 hval0
  refine (law_LegVisits start gin gout left inn l a cap W hcells hint (by unfold maxLen at hlen; omega) hnil).mono fun e W' ⟨he, bel⟩ => ?_
  subst he
  exact ⟨_, rfl, _, _, _, [], _, [], hW', trodAll_mk1 (shut_bool Try.underlying4 _), (trodAll_cons_mk (Below.trod laidOut (by kernel_rfl) (of_decide_eq_true (by kernel_rfl)) h0 bel lt0) (trodAll_cons_mk (Below.trod laidOut (by kernel_rfl) (of_decide_eq_true (by kernel_rfl)) h1 bel lt1) trodAll_mk0)), rfl, Below.frame bel _, fun h => by cases h⟩
theorem over : Rows.legVisitsRow.holds Try.pinned (OpenSpec.ofChange Rows.legVisitsSpec) :=
  OpenClaim.holds_of_wide 3 Try.f3 rfl rfl rfl rfl rfl rfl rfl ⟨rfl, rfl, rfl, rfl, rfl⟩ rfl rfl rfl rfl rfl (by kernel_rfl) Try.func3 (by kernel_rfl)
    (of_decide_eq_true (by kernel_rfl)) (by unfold Func.isWrapper; first | (rw [if_pos (by decide +kernel)]; kernel_rfl) | (rw [if_neg (by decide +kernel)]; exact ⟨rfl, rfl⟩))
    (fun os started H enc _ => lifted os started H enc)
/-- The statement. -/
theorem proved : Rows.LegVisitsSaid := over
#print axioms proved
end Go.Proofs.Ytocnglplhnhllaa.legVisitsDone
