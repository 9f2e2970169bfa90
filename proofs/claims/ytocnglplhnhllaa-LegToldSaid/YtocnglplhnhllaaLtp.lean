/-
  The statement LegTold, for every input (no condition).
-/
import Derived.Test.YtocnglplhnhllaaOpn
import Derived.Test.YtocnglplhnhllaaTah
import Derived.Test.YtocnglplhnhllaaRows
import Derived.Test.YtocnglplhnhllaaLtd
namespace Go.Proofs.Ytocnglplhnhllaa
open Go.RowKit
theorem u16_of_wf {x : Int} (h : (Lit.int .u16 x).wf = true) : 0 ≤ x ∧ x ≤ 65535 := by
  simp [Lit.wf, IntKind.min, IntKind.max, IntKind.signed, IntKind.bits] at h
  omega
theorem u8_of_wf {x : Int} (h : (Lit.int .u8 x).wf = true) : 0 ≤ x ∧ x ≤ 255 := by
  simp [Lit.wf, IntKind.min, IntKind.max, IntKind.signed, IntKind.bits] at h
  omega
/-- A slice of integers of a kind. -/
theorem sat_kind {w : World} {k : IntKind} {cs : List Value} (h : Sat w (.slice 1 (.int k)) cs) : ∃ a cap, ∃ l : List Int, cs = [.slice a l.length cap] ∧ (a = none → l.length = 0 ∧ cap = 0) ∧ l.length ≤ maxLen ∧ CellsAt w k a l ∧ ∀ x ∈ l, (Lit.int k x).wf = true := by
  obtain ⟨a, len, cap, rfl, hn, hl, h⟩ := h
  obtain ⟨l, rfl, hp⟩ := list_of (p := fun i (x : Int) => (Lit.int k x).wf = true ∧ ∃ b o, a = some ⟨b, o, none⟩ ∧ w.cell? ⟨b, o + i, none⟩ = some (.int k x)) len (fun i hi => by
    obtain ⟨b, o, xs, rfl, hlen, hc, n, rfl, hw⟩ := h i hi
    exact ⟨n, hw, b, o, rfl, by have := hc 0 (by omega); simpa using this⟩)
  exact ⟨a, cap, l, rfl, hn, Nat.le_trans hl.1 hl.2, fun i hi => (hp i hi).2, fun x hx => by
    obtain ⟨i, hi, rfl⟩ := List.mem_iff_getElem.1 hx
    exact (hp i hi).1⟩
theorem sat_u16 {w : World} {cs : List Value} (h : Sat w (.slice 1 (.int .u16)) cs) : ∃ a cap, ∃ l : List Int, cs = [.slice a l.length cap] ∧ (a = none → l.length = 0 ∧ cap = 0) ∧ l.length ≤ maxLen ∧ CellsAt w .u16 a l ∧ ∀ x ∈ l, 0 ≤ x ∧ x ≤ 65535 :=
  let ⟨a, cap, l, h1, h2, h3, h4, h5⟩ := sat_kind h; ⟨a, cap, l, h1, h2, h3, h4, fun x hx => u16_of_wf (h5 x hx)⟩
theorem sat_u8 {w : World} {cs : List Value} (h : Sat w (.slice 1 (.int .u8)) cs) : ∃ a cap, ∃ l : List Int, cs = [.slice a l.length cap] ∧ (a = none → l.length = 0 ∧ cap = 0) ∧ l.length ≤ maxLen ∧ CellsAt w .u8 a l ∧ ∀ x ∈ l, 0 ≤ x ∧ x ≤ 255 :=
  let ⟨a, cap, l, h1, h2, h3, h4, h5⟩ := sat_kind h; ⟨a, cap, l, h1, h2, h3, h4, fun x hx => u8_of_wf (h5 x hx)⟩
end Go.Proofs.Ytocnglplhnhllaa
namespace Go.Proofs.Ytocnglplhnhllaa
open Go.RowKit
def handS : Shp := .pair (.slice 1 (.int .u16)) (.pair (.int .u8) (.pair .bool (.pair (.int .u8) (.pair (.int .u8) (.pair (.slice 1 (.int .u8)) .nil)))))
theorem sat_hand {w : World} {cs : List Value} (h : Sat w handS cs) : ∃ sa sc ba bc, ∃ H : Hnd, cs = [.slice sa H.starts.length sc, .int .u8 H.gates, .bool H.equal, .int .u8 H.rounds, .int .u8 H.first, .slice ba H.beds.length bc] ∧ H.fits ∧ CellsAt w .u16 sa H.starts ∧ CellsAt w .u8 ba H.beds := by
  obtain ⟨_, _, rfl, hs, _, _, rfl, ⟨x, rfl, hx⟩, _, _, rfl, ⟨y, rfl⟩, _, _, rfl, ⟨z, rfl, hz⟩, _, _, rfl, ⟨t, rfl, ht⟩, _, _, rfl, hb, rfl⟩ := h
  obtain ⟨a, c, l, rfl, -, hm, hA, hI⟩ := sat_u16 hs
  obtain ⟨a', c', l', rfl, -, hm', hA', hI'⟩ := sat_u8 hb
  exact ⟨a, c, a', c', ⟨l, x, y, z, t, l'⟩, rfl, ⟨hI, u8_of_wf hx, u8_of_wf hz, u8_of_wf ht, hI', by unfold maxLen at hm; simp only; omega, by unfold maxLen at hm'; simp only; omega⟩, hA, hA'⟩
end Go.Proofs.Ytocnglplhnhllaa
namespace Go.Proofs.Ytocnglplhnhllaa.legToldDone
open Go.ChangeShapes Go.WideShapes Go.ChangeAt Go.RowKit
theorem own : ownKnob Try.prog.godebug = none := by kernel_rfl
theorem laidOut : laidOutB Try.prog = true := by kernel_rfl
set_option maxRecDepth 100000 in
theorem lifted (os : Os) (started : os.Started) (H : Type) (enc : TypeId × Value → H) :
    ReturnsInHanded {} Try.checked os 8 .any (Rows.legToldSpec.pre6 enc Try.prog Try.f8 Rows.legToldRow.domain false) (Rows.legToldSpec.post enc Try.prog Try.f8 false true false false) := by
  refine returnsInHanded_of_change (C := Try.checked) own started (by kernel_rfl) Try.func8
    (ChangeSpec.witness6 (enc := enc) (C := Try.checked) false ⟨#[], #[.agg #[.slice none 0 0, .int .u8 0, .bool false, .int .u8 0, .int .u8 0, .slice none 0 0]], []⟩ 8 (by kernel_rfl) (by kernel_rfl) (by kernel_rfl) (by kernel_rfl)) ?_
  intro W base args ds gs before hval0 hW hcnd _
  have hval : ∀ (j : Nat) t v, Try.f8.params[j]? = some t → args[j]? = some v → Value.okWide Try.prog W .any base t v := hval0
  have hW' := hW
  obtain ⟨p, q, hA0, hV, rfl, hfz, hnd⟩ := hW
  have hA : DataW.TrodAll enc Try.prog W 0 (fun _ => true) true Try.f8.params.toList args.toList ds p := hA0
  rw [Try.params8] at hA hval
  obtain ⟨v0, vs0, d0, ds0, p0, q0, hargs, rfl, rfl, h0, r0⟩ := trodAll_cons hA
  obtain ⟨rfl, rfl, rfl⟩ := trodAll_nil r0
  obtain rfl : args = #[v0] := by cases args; simp_all
  obtain ⟨rfl, rfl⟩ := trodVars_none hV
  have k0 := h0
  have lt0 : ∀ x ∈ p0, x.block < W.heap.size := by obtain ⟨m, hm⟩ := h0; exact DataW.trod_lt m _ _ _ hm
  have s0 := sat_arg (f := 9) (s := handS) (by kernel_rfl) h0
  obtain ⟨cs0, rfl, hcs0⟩ := okWide_struct Try.underlying78 (hval 0 78 v0 rfl rfl)
  obtain ⟨hsa, hsc, hba, hbc, hh, e0, hfit, hcs, hcb⟩ := sat_hand s0
  obtain rfl : cs0 = #[.slice hsa hh.starts.length hsc, .int .u8 hh.gates, .bool hh.equal, .int .u8 hh.rounds, .int .u8 hh.first, .slice hba hh.beds.length hbc] := by
    have : (Value.agg cs0).cells.toList = cs0.toList := rfl
    rw [this] at e0
    cases cs0; simpa using e0
  clear hA0 hval0
  refine (law_LegTold hh hsa hba hsc hbc hfit W hcs hcb).mono fun e W' ⟨he, bel⟩ => ?_
  subst he
  exact ⟨_, rfl, _, _, _, [], _, [], hW', trodAll_mk1 (shut_bool Try.underlying4 _), (trodAll_cons_mk (Below.trod laidOut (by kernel_rfl) (of_decide_eq_true (by kernel_rfl)) k0 bel lt0) trodAll_mk0), rfl, Below.frame bel _, fun h => by cases h⟩
theorem over : Rows.legToldRow.holds Try.pinned (OpenSpec.ofChange Rows.legToldSpec) :=
  OpenClaim.holds_of_wide 8 Try.f8 rfl rfl rfl rfl rfl rfl rfl ⟨rfl, rfl, rfl, rfl, rfl⟩ rfl rfl rfl rfl rfl (by kernel_rfl) Try.func8 (by kernel_rfl)
    (of_decide_eq_true (by kernel_rfl)) (by unfold Func.isWrapper; first | (rw [if_pos (by decide +kernel)]; kernel_rfl) | (rw [if_neg (by decide +kernel)]; exact ⟨rfl, rfl⟩))
    (fun os started H enc _ => lifted os started H enc)
/-- The statement. -/
theorem proved : Rows.LegToldSaid := over
#print axioms proved
end Go.Proofs.Ytocnglplhnhllaa.legToldDone
