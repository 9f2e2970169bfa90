/-
  The statement TopWaysPlayed, for every input (no condition).
-/
import Derived.Test.YtpifdeglhalefaaRows
import Derived.Test.YtpifdeglhalefaaWpe
import Derived.Test.YtpifdeglhalefaaOpw
import Derived.Test.YtpifdeglhalefaaOpn
namespace Go.Proofs.Ytpifdeglhalefaa.topWaysPlayedDone
open Go.ChangeShapes Go.WideShapes Go.ChangeAt Go.RowKit
theorem law_TopWaysPlayed (l : List Int) (a : Option Addr) (c : Nat) (x0 x1 sc : Int) (w : World) (h : CellsAt w .u8 a l) (hl : l.length ≤ 9223372036854775807) (hr : ∀ x ∈ l, 0 ≤ x ∧ x ≤ 255) (hx0 : 0 ≤ x0 ∧ x0 ≤ 255) (hx1 : 0 ≤ x1 ∧ x1 ≤ 255) (hsc : 0 ≤ sc ∧ sc ≤ 65535) :
    Calls Try.prog 5 #[.slice a l.length c, .agg #[.int .u8 x0, .int .u8 x1], .int .u16 sc] w fun e w' => e = .returned (.bool true) ∧ Ext w w' := by
  obtain ⟨n0, rfl⟩ := Int.eq_ofNat_of_zero_le hx0.1
  obtain ⟨n1, rfl⟩ := Int.eq_ofNat_of_zero_le hx1.1
  obtain ⟨n2, rfl⟩ := Int.eq_ofNat_of_zero_le hsc.1
  exact ways_played l a c n0 n1 n2 w h hl hr (by omega) (by omega) (by omega)
theorem okWide_array {P : Program} {r : Reach} {w : World} {base : Nat} {t : TypeId} {v : Value} {n : Nat} {e : TypeId} (ht : P.underlying t = some (.array n e)) (h : Value.okWide P w r base t v) : ∃ cs, v = .agg cs ∧ cs.size = P.cellsOf t := by
  simp only [Value.okWide, ht] at h
  obtain ⟨cs, h1, h2, _⟩ := h
  exact ⟨cs, h1, h2⟩
theorem own : ownKnob Try.prog.godebug = none := by kernel_rfl
theorem laidOut : laidOutB Try.prog = true := by kernel_rfl
set_option maxRecDepth 100000 in
set_option maxHeartbeats 2000000 in
theorem lifted (os : Os) (started : os.Started) (H : Type) (enc : TypeId × Value → H) :
    ReturnsInHanded {} Try.checked os 5 .any (Rows.topWaysPlayedSpec.pre6 enc Try.prog Try.f5 Rows.topWaysPlayedRow.domain false) (Rows.topWaysPlayedSpec.post enc Try.prog Try.f5 false true false false) := by
  refine returnsInHanded_of_change (C := Try.checked) own started (by kernel_rfl) Try.func5
    (ChangeSpec.witness6 (enc := enc) (C := Try.checked) false ⟨#[], #[.slice none 0 0, .agg #[.int .u8 0, .int .u8 0], .int .u16 0], []⟩ 8 (by kernel_rfl) (by kernel_rfl) (by kernel_rfl) (by kernel_rfl)) ?_
  intro W base args ds gs before hval0 hW hcnd _
  have hval : ∀ (j : Nat) t v, Try.f5.params[j]? = some t → args[j]? = some v → Value.okWide Try.prog W .any base t v := hval0
  have hW' := hW
  obtain ⟨p, q, hA0, hV, rfl, hfz, hnd⟩ := hW
  have hA : DataW.TrodAll enc Try.prog W 0 (fun _ => true) true Try.f5.params.toList args.toList ds p := hA0
  rw [Try.params5] at hA hval
  obtain ⟨v0, vs0, d0, ds0, p0, q0, hargs, rfl, rfl, h0, r0⟩ := trodAll_cons hA
  obtain ⟨v1, vs1, d1, ds1, p1, q1, rfl, rfl, rfl, h1, r1⟩ := trodAll_cons r0
  obtain ⟨v2, vs2, d2, ds2, p2, q2, rfl, rfl, rfl, h2, r2⟩ := trodAll_cons r1
  obtain ⟨rfl, rfl, rfl⟩ := trodAll_nil r2
  obtain rfl : args = #[v0, v1, v2] := by cases args; simp_all
  obtain ⟨rfl, rfl⟩ := trodVars_none hV
  have k0 := h0
  have lt0 : ∀ x ∈ p0, x.block < W.heap.size := by obtain ⟨m, hm⟩ := h0; exact DataW.trod_lt m _ _ _ hm
  have s0 := sat_arg (f := 9) (s := .slice 1 (.int .u8)) (by kernel_rfl) h0
  obtain ⟨a_y, len0, c_y, rfl⟩ := okWide_slice Try.underlying50 (hval 0 50 v0 rfl rfl)
  obtain ⟨a0', c0', l_y, e0, n_y, m_y, h_y, i_y⟩ := sat_u8 s0
  obtain ⟨rfl, rfl, rfl⟩ : a_y = a0' ∧ len0 = l_y.length ∧ c_y = c0' := by simpa [Value.cells] using e0
  have k1 := h1
  have lt1 : ∀ x ∈ p1, x.block < W.heap.size := by obtain ⟨m, hm⟩ := h1; exact DataW.trod_lt m _ _ _ hm
  have s1 := sat_arg (f := 9) (s := .pair (.int .u8) (.pair (.int .u8) (.nil))) (by kernel_rfl) h1
  obtain ⟨cs1, rfl, hcs1⟩ := okWide_array Try.underlying78 (hval 1 78 v1 rfl rfl)
  obtain ⟨_, _, e1, ⟨x0, rfl, w0⟩, _, _, rfl, ⟨x1, rfl, w1⟩, rfl⟩ := s1
  obtain rfl : cs1 = #[.int .u8 x0, .int .u8 x1] := by
    have : (Value.agg cs1).cells.toList = cs1.toList := rfl
    rw [this] at e1
    cases cs1; simpa using e1
  have k2 := h2
  have lt2 : ∀ x ∈ p2, x.block < W.heap.size := by obtain ⟨m, hm⟩ := h2; exact DataW.trod_lt m _ _ _ hm
  obtain ⟨sc, rfl, rfl, rfl, w_sc⟩ := open_int Try.underlying42 (hval 2 42 v2 rfl rfl) h2
  clear hA0 hval0
  refine (law_TopWaysPlayed l_y a_y c_y x0 x1 sc W h_y (by unfold maxLen at m_y; omega) i_y (u8_of_wf w0) (u8_of_wf w1) (u16_of_wf w_sc)).mono fun e W' ⟨he, bel⟩ => ?_
  subst he
  exact ⟨_, rfl, _, _, _, [], _, [], hW', trodAll_mk1 (shut_bool Try.underlying4 _), (trodAll_cons_mk (Below.trod laidOut (by kernel_rfl) (of_decide_eq_true (by kernel_rfl)) k0 bel lt0) (trodAll_cons_mk (Below.trod laidOut (by kernel_rfl) (of_decide_eq_true (by kernel_rfl)) k1 bel lt1) (trodAll_cons_mk (Below.trod laidOut (by kernel_rfl) (of_decide_eq_true (by kernel_rfl)) k2 bel lt2) trodAll_mk0))), rfl, Below.frame bel _, fun h => by cases h⟩
theorem over : Rows.topWaysPlayedRow.holds Try.pinned (OpenSpec.ofChange Rows.topWaysPlayedSpec) :=
  OpenClaim.holds_of_wide 5 Try.f5 rfl rfl rfl rfl rfl rfl rfl ⟨rfl, rfl, rfl, rfl, rfl⟩ rfl rfl rfl rfl rfl (by kernel_rfl) Try.func5 (by kernel_rfl)
    (of_decide_eq_true (by kernel_rfl)) (by unfold Func.isWrapper; first | (rw [if_pos (by decide +kernel)]; kernel_rfl) | (rw [if_neg (by decide +kernel)]; exact ⟨rfl, rfl⟩))
    (fun os started H enc _ => lifted os started H enc)
/-- The statement. -/
theorem proved : Rows.TopWaysPlayedSaid := over
#print axioms proved
end Go.Proofs.Ytpifdeglhalefaa.topWaysPlayedDone
