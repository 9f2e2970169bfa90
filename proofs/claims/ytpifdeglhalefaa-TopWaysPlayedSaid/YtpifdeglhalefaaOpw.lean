/-
  What arguments that are lists of small integers hold.
-/
import Derived.Test.YtpifdeglhalefaaOpn
namespace Go.Proofs.Ytpifdeglhalefaa
open Go.RowKit
theorem u16_of_wf {x : Int} (h : (Lit.int .u16 x).wf = true) : 0 ≤ x ∧ x ≤ 65535 := by
  simp [Lit.wf, IntKind.min, IntKind.max, IntKind.signed, IntKind.bits] at h
  omega
theorem u8_of_wf {x : Int} (h : (Lit.int .u8 x).wf = true) : 0 ≤ x ∧ x ≤ 255 := by
  simp [Lit.wf, IntKind.min, IntKind.max, IntKind.signed, IntKind.bits] at h
  omega
/-- A slice of integers of a kind. -/
theorem sat_kind {w : World} {k : IntKind} {cs : List Value} (h : Sat w (.slice 1 (.int k)) cs) : ∃ a cap, ∃ l : List Int, cs = [.slice a l.length cap] ∧ (a = none → l.length = 0 ∧ cap = 0) ∧ l.length ≤ maxLen ∧ CellsAt w k a l ∧ ∀ x ∈ l, (Lit.int k x).wf = true := by
  obtain ⟨a, len, cap, rfl, hn, hl, h⟩ := h
  obtain ⟨l, rfl, hp⟩ := list_of (p := fun i (x : Int) => (Lit.int k x).wf = true ∧ ∃ b o, a = some ⟨b, o, none⟩ ∧ w.cell? ⟨b, o + i, none⟩ = some (.int k x)) len (fun i hi => by
    obtain ⟨b, o, xs, rfl, hlen, hc, n, rfl, hw⟩ := h i hi
    exact ⟨n, hw, b, o, rfl, by have := hc 0 (by omega); simpa using this⟩)
  exact ⟨a, cap, l, rfl, hn, Nat.le_trans hl.1 hl.2, fun i hi => (hp i hi).2, fun x hx => by
    obtain ⟨i, hi, rfl⟩ := List.mem_iff_getElem.1 hx
    exact (hp i hi).1⟩
theorem sat_u16 {w : World} {cs : List Value} (h : Sat w (.slice 1 (.int .u16)) cs) : ∃ a cap, ∃ l : List Int, cs = [.slice a l.length cap] ∧ (a = none → l.length = 0 ∧ cap = 0) ∧ l.length ≤ maxLen ∧ CellsAt w .u16 a l ∧ ∀ x ∈ l, 0 ≤ x ∧ x ≤ 65535 :=
  let ⟨a, cap, l, h1, h2, h3, h4, h5⟩ := sat_kind h; ⟨a, cap, l, h1, h2, h3, h4, fun x hx => u16_of_wf (h5 x hx)⟩
theorem sat_u8 {w : World} {cs : List Value} (h : Sat w (.slice 1 (.int .u8)) cs) : ∃ a cap, ∃ l : List Int, cs = [.slice a l.length cap] ∧ (a = none → l.length = 0 ∧ cap = 0) ∧ l.length ≤ maxLen ∧ CellsAt w .u8 a l ∧ ∀ x ∈ l, 0 ≤ x ∧ x ≤ 255 :=
  let ⟨a, cap, l, h1, h2, h3, h4, h5⟩ := sat_kind h; ⟨a, cap, l, h1, h2, h3, h4, fun x hx => u8_of_wf (h5 x hx)⟩
end Go.Proofs.Ytpifdeglhalefaa
