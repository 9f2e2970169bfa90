/-
  What an argument that is a night holds.
-/
import Derived.Test.YtmopadnkjlodnaaOpw
import Derived.Test.YtmopadnkjlodnaaNtb
namespace Go.Proofs.Ytmopadnkjlodnaa
open Go.RowKit
def nightS : Shp := .pair (.slice 1 (.int .u8)) (.pair (.slice 1 (.int .u8)) (.pair (.int .u8) (.pair (.slice 1 (.int .u8)) .nil)))
theorem sat_night {w : World} {cs : List Value} (h : Sat w nightS cs) : ∃ ba bc sa sc ha hc, ∃ n : Nt, cs = [.slice ba n.beds.length bc, .slice sa n.starts.length sc, .int .u8 n.gates, .slice ha n.hits.length hc] ∧ NtA n ba sa ha w := by
  obtain ⟨_, _, rfl, hb, _, _, rfl, hs, _, _, rfl, ⟨g, rfl, hg⟩, _, _, rfl, hh, rfl⟩ := h
  obtain ⟨ba, bc, lb, rfl, -, mb, cb, ib⟩ := sat_u8 hb
  obtain ⟨sa, sc, ls, rfl, -, ms, cs', is_⟩ := sat_u8 hs
  obtain ⟨ha, hc, lh, rfl, -, mh, ch, ih⟩ := sat_u8 hh
  exact ⟨ba, bc, sa, sc, ha, hc, ⟨lb, ls, g, lh⟩, rfl, ⟨cb, cs', ch, ib, is_, ih, u8_of_wf hg, mb, ms, mh⟩⟩
end Go.Proofs.Ytmopadnkjlodnaa
