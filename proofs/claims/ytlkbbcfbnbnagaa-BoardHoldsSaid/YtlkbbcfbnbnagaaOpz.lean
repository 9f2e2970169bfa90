/-
  What an argument that is a board in bytes with a box holds.
-/
import Derived.Test.YtlkbbcfbnbnagaaOpy
namespace Go.Proofs.Ytlkbbcfbnbnagaa
open Go.RowKit
def twoS16 : Shp := .pair (.int .u16) (.pair (.int .u16) .nil)
def twoS8 : Shp := .pair (.int .u8) (.pair (.int .u8) .nil)
def boxedS : Shp := .pair madeS (.pair twoS16 (.pair twoS8 (.pair twoS8 .nil)))
theorem sat_boxed {w : World} {cs : List Value} (h : Sat w boxedS cs) : ∃ ra rc la lc, ∃ x : Mad, ∃ v0 v1 s0 s1 t0 t1 : Int, cs = [.slice ra x.rings.length rc, .slice la x.lines.length lc, .int .u8 x.first, .int .u8 x.wire, .int .u16 v0, .int .u16 v1, .int .u8 s0, .int .u8 s1, .int .u8 t0, .int .u8 t1] ∧
    (x.fits ∧ CellsAt w .u8 ra x.rings ∧ CellsAt w .u8 la x.lines ∧ x.rings.length ≤ maxLen ∧ x.lines.length ≤ maxLen) ∧ ((0 ≤ v0 ∧ v0 ≤ 65535) ∧ (0 ≤ v1 ∧ v1 ≤ 65535)) ∧ ((0 ≤ s0 ∧ s0 ≤ 255) ∧ (0 ≤ s1 ∧ s1 ≤ 255)) ∧ ((0 ≤ t0 ∧ t0 ≤ 255) ∧ (0 ≤ t1 ∧ t1 ≤ 255)) := by
  obtain ⟨_, _, rfl, hm, _, _, rfl, ⟨_, _, rfl, ⟨v0, rfl, h0⟩, _, _, rfl, ⟨v1, rfl, h1⟩, rfl⟩, _, _, rfl, ⟨_, _, rfl, ⟨s0, rfl, h2⟩, _, _, rfl, ⟨s1, rfl, h3⟩, rfl⟩, _, _, rfl, ⟨_, _, rfl, ⟨t0, rfl, h4⟩, _, _, rfl, ⟨t1, rfl, h5⟩, rfl⟩, rfl⟩ := h
  obtain ⟨ra, rc, la, lc, x, rfl, hf, hr, hl, hrl, hll⟩ := sat_made hm
  exact ⟨ra, rc, la, lc, x, v0, v1, s0, s1, t0, t1, rfl, ⟨hf, hr, hl, hrl, hll⟩, ⟨u16_of_wf h0, u16_of_wf h1⟩, ⟨u8_of_wf h2, u8_of_wf h3⟩, u8_of_wf h4, u8_of_wf h5⟩
end Go.Proofs.Ytlkbbcfbnbnagaa
