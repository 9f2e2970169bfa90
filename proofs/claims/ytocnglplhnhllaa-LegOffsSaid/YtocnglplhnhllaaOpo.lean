/-
  What an argument that is a list of rounds of darts at the bull holds.
-/
import Derived.Test.YtocnglplhnhllaaOpn
import Derived.Test.YtocnglplhnhllaaLof
namespace Go.Proofs.Ytocnglplhnhllaa
open Go.RowKit
def tossS : Shp := .pair (.int .i64) (.pair (.int .i64) .nil)
/-- A slice of darts. -/
theorem sat_tosses {w : World} {cs : List Value} (h : Sat w (.slice 2 tossS) cs) : ∃ a cap, ∃ l : List Toss, cs = [.slice a l.length cap] ∧ (a = none → l.length = 0 ∧ cap = 0) ∧ l.length ≤ maxLen ∧ TossAt w a l ∧ ∀ x ∈ l, I64 x.bed ∧ I64 x.far := by
  obtain ⟨a, len, cap, rfl, hn, hl, h⟩ := h
  obtain ⟨l, rfl, hp⟩ := list_of (p := fun i (x : Toss) => (I64 x.bed ∧ I64 x.far) ∧ ∃ b o, a = some ⟨b, o, none⟩ ∧ w.cell? ⟨b, o + i * 2, none⟩ = some (.int .i64 x.bed) ∧ w.cell? ⟨b, o + i * 2 + 1, none⟩ = some (.int .i64 x.far)) len (fun i hi => by
    obtain ⟨b, o, xs, rfl, hlen, hc, _, _, rfl, ⟨x, rfl, hx⟩, _, _, rfl, ⟨y, rfl, hy⟩, rfl⟩ := h i hi
    exact ⟨⟨x, y⟩, ⟨i64_of_wf hx, i64_of_wf hy⟩, b, o, rfl, by have := hc 0 (by omega); simpa using this, by have := hc 1 (by omega); rw [Nat.add_assoc]; simpa using this⟩)
  exact ⟨a, cap, l, rfl, hn, Nat.le_trans hl.1 hl.2, fun i hi => (hp i hi).2, fun x hx => by
    obtain ⟨i, hi, rfl⟩ := List.mem_iff_getElem.1 hx
    exact (hp i hi).1⟩
/-- A slice of rounds. -/
theorem sat_rounds {w : World} {cs : List Value} (h : Sat w (.slice 1 (.slice 2 tossS)) cs) : ∃ a cap, ∃ l : List (List Toss), cs = [.slice a l.length cap] ∧ (a = none → l.length = 0 ∧ cap = 0) ∧ l.length ≤ maxLen ∧ RoundsIn w a l ∧ ∀ r ∈ l, (∀ x ∈ r, I64 x.bed) ∧ r.length ≤ maxLen := by
  obtain ⟨a, len, cap, rfl, hn, hl, h⟩ := h
  obtain ⟨l, rfl, hp⟩ := list_of (p := fun i (r : List Toss) => ((∀ x ∈ r, I64 x.bed) ∧ r.length ≤ maxLen) ∧ ∃ b o a' c', a = some ⟨b, o, none⟩ ∧ w.cell? ⟨b, o + i, none⟩ = some (.slice a' r.length c') ∧ TossAt w a' r ∧ (a' = none → r.length = 0 ∧ c' = 0)) len (fun i hi => by
    obtain ⟨b, o, xs, rfl, hlen, hc, hs⟩ := h i hi
    obtain ⟨a', c', r, rfl, hn', hm, ht, hi'⟩ := sat_tosses hs
    exact ⟨r, ⟨fun x hx => (hi' x hx).1, hm⟩, b, o, a', c', rfl, by have := hc 0 (by omega); simpa using this, ht, hn'⟩)
  exact ⟨a, cap, l, rfl, hn, Nat.le_trans hl.1 hl.2, fun i hi => (hp i hi).2, fun x hx => by
    obtain ⟨i, hi, rfl⟩ := List.mem_iff_getElem.1 hx
    exact (hp i hi).1⟩
end Go.Proofs.Ytocnglplhnhllaa
