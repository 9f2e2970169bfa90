/-
  What arguments that are rules, or lists of visits, hold.
-/
import Derived.Test.YtocnglplhnhllaaOpn
import Derived.Test.YtocnglplhnhllaaVit
namespace Go.Proofs.Ytocnglplhnhllaa
open Go.RowKit
def cntS : Shp := .pair (.int .i64) (.pair (.int .i64) (.pair (.int .i64) .nil))
def rulS : Shp := .pair (.slice 3 cntS) (.pair (.int .i64) (.pair (.int .i64) (.pair .bool .nil)))
def visitS : Shp := .pair (.int .i64) (.pair (.slice 1 (.int .i64)) .nil)
/-- A slice of laws of players. -/
theorem sat_cnts {w : World} {cs : List Value} (h : Sat w (.slice 3 cntS) cs) : ∃ a cap, ∃ l : List Cnt, cs = [.slice a l.length cap] ∧ (a = none → l.length = 0 ∧ cap = 0) ∧ l.length ≤ maxLen ∧ CntsAt w a l := by
  obtain ⟨a, len, cap, rfl, hn, hl, h⟩ := h
  obtain ⟨l, rfl, hp⟩ := list_of (p := fun i (x : Cnt) => ∃ b o, a = some ⟨b, o, none⟩ ∧ w.cell? ⟨b, o + i * 3, none⟩ = some (.int .i64 x.start) ∧ w.cell? ⟨b, o + i * 3 + 1, none⟩ = some (.int .i64 x.gin) ∧ w.cell? ⟨b, o + i * 3 + 2, none⟩ = some (.int .i64 x.gout)) len (fun i hi => by
    obtain ⟨b, o, xs, rfl, hlen, hc, _, _, rfl, ⟨x, rfl, -⟩, _, _, rfl, ⟨y, rfl, -⟩, _, _, rfl, ⟨z, rfl, -⟩, rfl⟩ := h i hi
    exact ⟨⟨x, y, z⟩, b, o, rfl, by have := hc 0 (by omega); simpa using this, by have := hc 1 (by omega); rw [Nat.add_assoc]; simpa using this, by have := hc 2 (by omega); rw [Nat.add_assoc]; simpa using this⟩)
  exact ⟨a, cap, l, rfl, hn, Nat.le_trans hl.1 hl.2, fun i hi => hp i hi⟩
/-- Rules. -/
theorem sat_rules {w : World} {cs : List Value} (h : Sat w rulS cs) : ∃ a cap, ∃ r : Rul, cs = [.slice a r.counts.length cap, .int .i64 r.first, .int .i64 r.rounds, .bool r.equal] ∧ (a = none → r.counts.length = 0 ∧ cap = 0) ∧ r.counts.length ≤ maxLen ∧ CntsAt w a r.counts := by
  obtain ⟨_, _, rfl, hc, _, _, rfl, ⟨x, rfl, -⟩, _, _, rfl, ⟨y, rfl, -⟩, _, _, rfl, ⟨z, rfl⟩, rfl⟩ := h
  obtain ⟨a, cap, l, rfl, hn, hm, hA⟩ := sat_cnts hc
  exact ⟨a, cap, ⟨l, x, y, z⟩, rfl, hn, hm, hA⟩
/-- A slice of visits. -/
theorem sat_visits {w : World} {cs : List Value} (h : Sat w (.slice 2 visitS) cs) : ∃ a cap, ∃ l : List LV, cs = [.slice a l.length cap] ∧ (a = none → l.length = 0 ∧ cap = 0) ∧ l.length ≤ maxLen ∧ VisIn w a l ∧ ∀ v ∈ l, v.fits := by
  obtain ⟨a, len, cap, rfl, hn, hl, h⟩ := h
  obtain ⟨l, rfl, hp⟩ := list_of (p := fun i (v : LV) => v.fits ∧ ∃ b o ba bc, a = some ⟨b, o, none⟩ ∧ w.cell? ⟨b, o + i * 2, none⟩ = some (.int .i64 v.player) ∧ w.cell? ⟨b, o + i * 2 + 1, none⟩ = some (.slice ba v.beds.length bc) ∧ CellsAt w .i64 ba v.beds ∧ (ba = none → v.beds.length = 0 ∧ bc = 0)) len (fun i hi => by
    obtain ⟨b, o, xs, rfl, hlen, hc, _, _, rfl, ⟨x, rfl, hx⟩, _, _, rfl, hb, rfl⟩ := h i hi
    obtain ⟨ba, bc, bl, rfl, bn, bm, bC, bI⟩ := sat_ints hb
    refine ⟨⟨x, bl⟩, ⟨i64_of_wf hx, bI, by unfold maxLen at bm; simp only; omega⟩, b, o, ba, bc, rfl, by have := hc 0 (by omega); simpa using this, by have := hc 1 (by omega); rw [Nat.add_assoc]; simpa using this, bC, bn⟩)
  exact ⟨a, cap, l, rfl, hn, Nat.le_trans hl.1 hl.2, fun i hi => (hp i hi).2, fun x hx => by
    obtain ⟨i, hi, rfl⟩ := List.mem_iff_getElem.1 hx
    exact (hp i hi).1⟩
end Go.Proofs.Ytocnglplhnhllaa
