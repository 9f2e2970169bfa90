/-
  The statement LegTurned, for every input (no condition).
-/
import Derived.Test.YtocnglplhnhllaaOpn
import Derived.Test.YtocnglplhnhllaaTah
import Derived.Test.YtocnglplhnhllaaRows
import Derived.Test.YtocnglplhnhllaaTua
namespace Go.Proofs.Ytocnglplhnhllaa
open Go.RowKit
theorem u16_of_wf {x : Int} (h : (Lit.int .u16 x).wf = true) : 0 ≤ x ∧ x ≤ 65535 := by
  simp [Lit.wf, IntKind.min, IntKind.max, IntKind.signed, IntKind.bits] at h
  omega
theorem u8_of_wf {x : Int} (h : (Lit.int .u8 x).wf = true) : 0 ≤ x ∧ x ≤ 255 := by
  simp [Lit.wf, IntKind.min, IntKind.max, IntKind.signed, IntKind.bits] at h
  omega
/-- A slice of integers of a kind. -/
theorem sat_kind {w : World} {k : IntKind} {cs : List Value} (h : Sat w (.slice 1 (.int k)) cs) : ∃ a cap, ∃ l : List Int, cs = [.slice a l.length cap] ∧ (a = none → l.length = 0 ∧ cap = 0) ∧ l.length ≤ maxLen ∧ CellsAt w k a l ∧ ∀ x ∈ l, (Lit.int k x).wf = true := by
  obtain ⟨a, len, cap, rfl, hn, hl, h⟩ := h
  obtain ⟨l, rfl, hp⟩ := list_of (p := fun i (x : Int) => (Lit.int k x).wf = true ∧ ∃ b o, a = some ⟨b, o, none⟩ ∧ w.cell? ⟨b, o + i, none⟩ = some (.int k x)) len (fun i hi => by
    obtain ⟨b, o, xs, rfl, hlen, hc, n, rfl, hw⟩ := h i hi
    exact ⟨n, hw, b, o, rfl, by have := hc 0 (by omega); simpa using this⟩)
  exact ⟨a, cap, l, rfl, hn, Nat.le_trans hl.1 hl.2, fun i hi => (hp i hi).2, fun x hx => by
    obtain ⟨i, hi, rfl⟩ := List.mem_iff_getElem.1 hx
    exact (hp i hi).1⟩
theorem sat_u16 {w : World} {cs : List Value} (h : Sat w (.slice 1 (.int .u16)) cs) : ∃ a cap, ∃ l : List Int, cs = [.slice a l.length cap] ∧ (a = none → l.length = 0 ∧ cap = 0) ∧ l.length ≤ maxLen ∧ CellsAt w .u16 a l ∧ ∀ x ∈ l, 0 ≤ x ∧ x ≤ 65535 :=
  let ⟨a, cap, l, h1, h2, h3, h4, h5⟩ := sat_kind h; ⟨a, cap, l, h1, h2, h3, h4, fun x hx => u16_of_wf (h5 x hx)⟩
theorem sat_u8 {w : World} {cs : List Value} (h : Sat w (.slice 1 (.int .u8)) cs) : ∃ a cap, ∃ l : List Int, cs = [.slice a l.length cap] ∧ (a = none → l.length = 0 ∧ cap = 0) ∧ l.length ≤ maxLen ∧ CellsAt w .u8 a l ∧ ∀ x ∈ l, 0 ≤ x ∧ x ≤ 255 :=
  let ⟨a, cap, l, h1, h2, h3, h4, h5⟩ := sat_kind h; ⟨a, cap, l, h1, h2, h3, h4, fun x hx => u8_of_wf (h5 x hx)⟩
end Go.Proofs.Ytocnglplhnhllaa
namespace Go.Proofs.Ytocnglplhnhllaa
open Go.RowKit
def handS : Shp := .pair (.slice 1 (.int .u16)) (.pair (.int .u8) (.pair .bool (.pair (.int .u8) (.pair (.int .u8) (.pair (.slice 1 (.int .u8)) .nil)))))
theorem sat_hand {w : World} {cs : List Value} (h : Sat w handS cs) : ∃ sa sc ba bc, ∃ H : Hnd, cs = [.slice sa H.starts.length sc, .int .u8 H.gates, .bool H.equal, .int .u8 H.rounds, .int .u8 H.first, .slice ba H.beds.length bc] ∧ H.fits ∧ CellsAt w .u16 sa H.starts ∧ CellsAt w .u8 ba H.beds := by
  obtain ⟨_, _, rfl, hs, _, _, rfl, ⟨x, rfl, hx⟩, _, _, rfl, ⟨y, rfl⟩, _, _, rfl, ⟨z, rfl, hz⟩, _, _, rfl, ⟨t, rfl, ht⟩, _, _, rfl, hb, rfl⟩ := h
  obtain ⟨a, c, l, rfl, -, hm, hA, hI⟩ := sat_u16 hs
  obtain ⟨a', c', l', rfl, -, hm', hA', hI'⟩ := sat_u8 hb
  exact ⟨a, c, a', c', ⟨l, x, y, z, t, l'⟩, rfl, ⟨hI, u8_of_wf hx, u8_of_wf hz, u8_of_wf ht, hI', by unfold maxLen at hm; simp only; omega, by unfold maxLen at hm'; simp only; omega⟩, hA, hA'⟩
end Go.Proofs.Ytocnglplhnhllaa
namespace Go.Proofs.Ytocnglplhnhllaa.legTurnedDone
open Go.ChangeShapes Go.WideShapes Go.ChangeAt Go.RowKit
theorem okWide_array {P : Program} {r : Reach} {w : World} {base : Nat} {t : TypeId} {v : Value} {n : Nat} {e : TypeId} (ht : P.underlying t = some (.array n e)) (h : Value.okWide P w r base t v) : ∃ cs, v = .agg cs ∧ cs.size = P.cellsOf t := by
  simp only [Value.okWide, ht] at h
  obtain ⟨cs, h1, h2, _⟩ := h
  exact ⟨cs, h1, h2⟩
theorem own : ownKnob Try.prog.godebug = none := by kernel_rfl
theorem laidOut : laidOutB Try.prog = true := by kernel_rfl
set_option maxRecDepth 100000 in
theorem lifted (os : Os) (started : os.Started) (H : Type) (enc : TypeId × Value → H) :
    ReturnsInHanded {} Try.checked os 11 .any (Rows.legTurnedSpec.pre6 enc Try.prog Try.f11 Rows.legTurnedRow.domain false) (Rows.legTurnedSpec.post enc Try.prog Try.f11 false true false false) := by
  refine returnsInHanded_of_change (C := Try.checked) own started (by kernel_rfl) Try.func11
    (ChangeSpec.witness6 (enc := enc) (C := Try.checked) false ⟨#[], #[.agg #[.slice none 0 0, .int .u8 0, .bool false, .int .u8 0, .int .u8 0, .slice none 0 0], .slice none 0 0, .agg #[.int .u8 0, .int .u8 0, .int .u8 0, .int .u8 0, .int .u8 0]], []⟩ 8 (by kernel_rfl) (by kernel_rfl) (by kernel_rfl) (by kernel_rfl)) ?_
  intro W base args ds gs before hval0 hW hcnd _
  have hval : ∀ (j : Nat) t v, Try.f11.params[j]? = some t → args[j]? = some v → Value.okWide Try.prog W .any base t v := hval0
  have hW' := hW
  obtain ⟨p, q, hA0, hV, rfl, hfz, hnd⟩ := hW
  have hA : DataW.TrodAll enc Try.prog W 0 (fun _ => true) true Try.f11.params.toList args.toList ds p := hA0
  rw [Try.params11] at hA hval
  obtain ⟨v0, vs0, d0, ds0, p0, q0, hargs, rfl, rfl, h0, r0⟩ := trodAll_cons hA
  obtain ⟨v1, vs1, d1, ds1, p1, q1, rfl, rfl, rfl, h1, r1⟩ := trodAll_cons r0
  obtain ⟨v2, vs2, d2, ds2, p2, q2, rfl, rfl, rfl, h2, r2⟩ := trodAll_cons r1
  obtain ⟨rfl, rfl, rfl⟩ := trodAll_nil r2
  obtain rfl : args = #[v0, v1, v2] := by cases args; simp_all
  obtain ⟨rfl, rfl⟩ := trodVars_none hV
  have k0 := h0
  have lt0 : ∀ x ∈ p0, x.block < W.heap.size := by obtain ⟨m, hm⟩ := h0; exact DataW.trod_lt m _ _ _ hm
  have s0 := sat_arg (f := 9) (s := handS) (by kernel_rfl) h0
  obtain ⟨cs0, rfl, hcs0⟩ := okWide_struct Try.underlying78 (hval 0 78 v0 rfl rfl)
  obtain ⟨hsa, hsc, hba, hbc, hh, e0, hfit, hcs, hcb⟩ := sat_hand s0
  obtain rfl : cs0 = #[.slice hsa hh.starts.length hsc, .int .u8 hh.gates, .bool hh.equal, .int .u8 hh.rounds, .int .u8 hh.first, .slice hba hh.beds.length hbc] := by
    have : (Value.agg cs0).cells.toList = cs0.toList := rfl
    rw [this] at e0
    cases cs0; simpa using e0
  have k1 := h1
  have lt1 : ∀ x ∈ p1, x.block < W.heap.size := by obtain ⟨m, hm⟩ := h1; exact DataW.trod_lt m _ _ _ hm
  have s1 := sat_arg (f := 9) (s := .slice 1 (.int .u8)) (by kernel_rfl) h1
  obtain ⟨a_o, len1, c_o, rfl⟩ := okWide_slice Try.underlying76 (hval 1 76 v1 rfl rfl)
  obtain ⟨a1', c1', l_o, e1, n_o, m_o, h_o, i_o⟩ := sat_u8 s1
  obtain ⟨rfl, rfl, rfl⟩ : a_o = a1' ∧ len1 = l_o.length ∧ c_o = c1' := by simpa [Value.cells] using e1
  have k2 := h2
  have lt2 : ∀ x ∈ p2, x.block < W.heap.size := by obtain ⟨m, hm⟩ := h2; exact DataW.trod_lt m _ _ _ hm
  have s2 := sat_arg (f := 9) (s := .pair (.int .u8) (.pair (.int .u8) (.pair (.int .u8) (.pair (.int .u8) (.pair (.int .u8) (.nil)))))) (by kernel_rfl) h2
  obtain ⟨cs2, rfl, hcs2⟩ := okWide_array Try.underlying87 (hval 2 87 v2 rfl rfl)
  obtain ⟨_, _, e2, ⟨x0, rfl, w0⟩, _, _, rfl, ⟨x1, rfl, w1⟩, _, _, rfl, ⟨x2, rfl, w2⟩, _, _, rfl, ⟨x3, rfl, w3⟩, _, _, rfl, ⟨x4, rfl, w4⟩, rfl⟩ := s2
  obtain rfl : cs2 = #[.int .u8 x0, .int .u8 x1, .int .u8 x2, .int .u8 x3, .int .u8 x4] := by
    have : (Value.agg cs2).cells.toList = cs2.toList := rfl
    rw [this] at e2
    cases cs2; simpa using e2
  clear hA0 hval0
  refine (law_LegTurned hh hsa hba hsc hbc l_o a_o c_o x0 x1 x2 x3 x4 hfit (u8_of_wf w0) (u8_of_wf w1) (u8_of_wf w2) (u8_of_wf w3) (u8_of_wf w4) W hcs hcb h_o i_o (by unfold maxLen at m_o; omega)).mono fun e W' ⟨he, bel⟩ => ?_
  subst he
  exact ⟨_, rfl, _, _, _, [], _, [], hW', trodAll_mk1 (shut_bool Try.underlying4 _), (trodAll_cons_mk (Below.trod laidOut (by kernel_rfl) (of_decide_eq_true (by kernel_rfl)) k0 bel lt0) (trodAll_cons_mk (Below.trod laidOut (by kernel_rfl) (of_decide_eq_true (by kernel_rfl)) k1 bel lt1) (trodAll_cons_mk (Below.trod laidOut (by kernel_rfl) (of_decide_eq_true (by kernel_rfl)) k2 bel lt2) trodAll_mk0))), rfl, Below.frame bel _, fun h => by cases h⟩
theorem over : Rows.legTurnedRow.holds Try.pinned (OpenSpec.ofChange Rows.legTurnedSpec) :=
  OpenClaim.holds_of_wide 11 Try.f11 rfl rfl rfl rfl rfl rfl rfl ⟨rfl, rfl, rfl, rfl, rfl⟩ rfl rfl rfl rfl rfl (by kernel_rfl) Try.func11 (by kernel_rfl)
    (of_decide_eq_true (by kernel_rfl)) (by unfold Func.isWrapper; first | (rw [if_pos (by decide +kernel)]; kernel_rfl) | (rw [if_neg (by decide +kernel)]; exact ⟨rfl, rfl⟩))
    (fun os started H enc _ => lifted os started H enc)
/-- The statement. -/
theorem proved : Rows.LegTurnedSaid := over
#print axioms proved
end Go.Proofs.Ytocnglplhnhllaa.legTurnedDone
