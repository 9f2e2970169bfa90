/-
  What an argument that is a board in bytes holds.
-/
import Derived.Test.YtlkbbcfbnbnagaaOpw
import Derived.Test.YtlkbbcfbnbnagaaLbe
namespace Go.Proofs.Ytlkbbcfbnbnagaa
open Go.RowKit
def madeS : Shp := .pair (.slice 1 (.int .u8)) (.pair (.slice 1 (.int .u8)) (.pair (.int .u8) (.pair (.int .u8) .nil)))
theorem sat_made {w : World} {cs : List Value} (h : Sat w madeS cs) : ∃ ra rc la lc, ∃ x : Mad, cs = [.slice ra x.rings.length rc, .slice la x.lines.length lc, .int .u8 x.first, .int .u8 x.wire] ∧ x.fits ∧ CellsAt w .u8 ra x.rings ∧ CellsAt w .u8 la x.lines ∧ x.rings.length ≤ maxLen ∧ x.lines.length ≤ maxLen := by
  obtain ⟨_, _, rfl, hs, _, _, rfl, hb, _, _, rfl, ⟨z, rfl, hz⟩, _, _, rfl, ⟨t, rfl, ht⟩, rfl⟩ := h
  obtain ⟨a, c, l, rfl, -, hm, hA, hI⟩ := sat_u8 hs
  obtain ⟨a', c', l', rfl, -, hm', hA', hI'⟩ := sat_u8 hb
  exact ⟨a, c, a', c', ⟨l, l', z, t⟩, rfl, ⟨hI, hI', u8_of_wf hz, u8_of_wf ht⟩, hA, hA', hm, hm'⟩
end Go.Proofs.Ytlkbbcfbnbnagaa
