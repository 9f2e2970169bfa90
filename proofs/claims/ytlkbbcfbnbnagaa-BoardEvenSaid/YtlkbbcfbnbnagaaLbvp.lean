/-
  The statement BoardEven, for every input (no condition).
-/
import Derived.Test.YtlkbbcfbnbnagaaRows
import Derived.Test.YtlkbbcfbnbnagaaLbv
import Derived.Test.YtlkbbcfbnbnagaaOpy
import Derived.Test.YtlkbbcfbnbnagaaOpn
namespace Go.Proofs.Ytlkbbcfbnbnagaa.boardEvenDone
open Go.ChangeShapes Go.WideShapes Go.ChangeAt Go.RowKit
theorem okWide_array {P : Program} {r : Reach} {w : World} {base : Nat} {t : TypeId} {v : Value} {n : Nat} {e : TypeId} (ht : P.underlying t = some (.array n e)) (h : Value.okWide P w r base t v) : ∃ cs, v = .agg cs ∧ cs.size = P.cellsOf t := by
  simp only [Value.okWide, ht] at h
  obtain ⟨cs, h1, h2, _⟩ := h
  exact ⟨cs, h1, h2⟩
theorem own : ownKnob Try.prog.godebug = none := by kernel_rfl
theorem laidOut : laidOutB Try.prog = true := by kernel_rfl
set_option maxRecDepth 100000 in
set_option maxHeartbeats 2000000 in
theorem lifted (os : Os) (started : os.Started) (H : Type) (enc : TypeId × Value → H) :
    ReturnsInHanded {} Try.checked os 8 .any (Rows.boardEvenSpec.pre6 enc Try.prog Try.f8 Rows.boardEvenRow.domain false) (Rows.boardEvenSpec.post enc Try.prog Try.f8 false true false false) := by
  refine returnsInHanded_of_change (C := Try.checked) own started (by kernel_rfl) Try.func8
    (ChangeSpec.witness6 (enc := enc) (C := Try.checked) false ⟨#[], #[.agg #[.slice none 0 0, .slice none 0 0, .int .u8 0, .int .u8 0], .slice none 0 0, .agg #[.int .u8 0, .int .u8 0]], []⟩ 8 (by kernel_rfl) (by kernel_rfl) (by kernel_rfl) (by kernel_rfl)) ?_
  intro W base args ds gs before hval0 hW hcnd _
  have hval : ∀ (j : Nat) t v, Try.f8.params[j]? = some t → args[j]? = some v → Value.okWide Try.prog W .any base t v := hval0
  have hW' := hW
  obtain ⟨p, q, hA0, hV, rfl, hfz, hnd⟩ := hW
  have hA : DataW.TrodAll enc Try.prog W 0 (fun _ => true) true Try.f8.params.toList args.toList ds p := hA0
  rw [Try.params8] at hA hval
  obtain ⟨v0, vs0, d0, ds0, p0, q0, hargs, rfl, rfl, h0, r0⟩ := trodAll_cons hA
  obtain ⟨v1, vs1, d1, ds1, p1, q1, rfl, rfl, rfl, h1, r1⟩ := trodAll_cons r0
  obtain ⟨v2, vs2, d2, ds2, p2, q2, rfl, rfl, rfl, h2, r2⟩ := trodAll_cons r1
  obtain ⟨rfl, rfl, rfl⟩ := trodAll_nil r2
  obtain rfl : args = #[v0, v1, v2] := by cases args; simp_all
  obtain ⟨rfl, rfl⟩ := trodVars_none hV
  have k0 := h0
  have lt0 : ∀ x ∈ p0, x.block < W.heap.size := by obtain ⟨m, hm⟩ := h0; exact DataW.trod_lt m _ _ _ hm
  have s0 := sat_arg (f := 9) (s := madeS) (by kernel_rfl) h0
  obtain ⟨cs0, rfl, hcs0⟩ := okWide_struct Try.underlying45 (hval 0 45 v0 rfl rfl)
  obtain ⟨mra, mrc, mla, mlc, x, e0, hfit, hmr, hml, hrm, hlm⟩ := sat_made s0
  obtain rfl : cs0 = #[.slice mra x.rings.length mrc, .slice mla x.lines.length mlc, .int .u8 x.first, .int .u8 x.wire] := by
    have : (Value.agg cs0).cells.toList = cs0.toList := rfl
    rw [this] at e0
    cases cs0; simpa using e0
  have k1 := h1
  have lt1 : ∀ x ∈ p1, x.block < W.heap.size := by obtain ⟨m, hm⟩ := h1; exact DataW.trod_lt m _ _ _ hm
  have s1 := sat_arg (f := 9) (s := .slice 1 (.int .u8)) (by kernel_rfl) h1
  obtain ⟨a_ws, len1, c_ws, rfl⟩ := okWide_slice Try.underlying43 (hval 1 43 v1 rfl rfl)
  obtain ⟨a1', c1', l_ws, e1, n_ws, m_ws, h_ws, i_ws⟩ := sat_u8 s1
  obtain ⟨rfl, rfl, rfl⟩ : a_ws = a1' ∧ len1 = l_ws.length ∧ c_ws = c1' := by simpa [Value.cells] using e1
  have k2 := h2
  have lt2 : ∀ x ∈ p2, x.block < W.heap.size := by obtain ⟨m, hm⟩ := h2; exact DataW.trod_lt m _ _ _ hm
  have s2 := sat_arg (f := 9) (s := .pair (.int .u8) (.pair (.int .u8) (.nil))) (by kernel_rfl) h2
  obtain ⟨cs2, rfl, hcs2⟩ := okWide_array Try.underlying48 (hval 2 48 v2 rfl rfl)
  obtain ⟨_, _, e2, ⟨y0, rfl, wy0⟩, _, _, rfl, ⟨y1, rfl, wy1⟩, rfl⟩ := s2
  obtain rfl : cs2 = #[.int .u8 y0, .int .u8 y1] := by
    have : (Value.agg cs2).cells.toList = cs2.toList := rfl
    rw [this] at e2
    cases cs2; simpa using e2
  clear hA0 hval0
  refine (law_BoardEven x mra mla mrc mlc l_ws a_ws c_ws y0 y1 hfit (u8_of_wf wy0) (u8_of_wf wy1) W hmr hml hrm hlm h_ws i_ws m_ws).mono fun e W' ⟨he, bel⟩ => ?_
  subst he
  exact ⟨_, rfl, _, _, _, [], _, [], hW', trodAll_mk1 (shut_bool Try.underlying4 _), (trodAll_cons_mk (Below.trod laidOut (by kernel_rfl) (of_decide_eq_true (by kernel_rfl)) k0 bel lt0) (trodAll_cons_mk (Below.trod laidOut (by kernel_rfl) (of_decide_eq_true (by kernel_rfl)) k1 bel lt1) (trodAll_cons_mk (Below.trod laidOut (by kernel_rfl) (of_decide_eq_true (by kernel_rfl)) k2 bel lt2) trodAll_mk0))), rfl, Below.frame bel _, fun h => by cases h⟩
theorem over : Rows.boardEvenRow.holds Try.pinned (OpenSpec.ofChange Rows.boardEvenSpec) :=
  OpenClaim.holds_of_wide 8 Try.f8 rfl rfl rfl rfl rfl rfl rfl ⟨rfl, rfl, rfl, rfl, rfl⟩ rfl rfl rfl rfl rfl (by kernel_rfl) Try.func8 (by kernel_rfl)
    (of_decide_eq_true (by kernel_rfl)) (by unfold Func.isWrapper; first | (rw [if_pos (by decide +kernel)]; kernel_rfl) | (rw [if_neg (by decide +kernel)]; exact ⟨rfl, rfl⟩))
    (fun os started H enc _ => lifted os started H enc)
/-- The statement. -/
theorem proved : Rows.BoardEvenSaid := over
#print axioms proved
end Go.Proofs.Ytlkbbcfbnbnagaa.boardEvenDone
