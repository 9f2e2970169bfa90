/-
  What arguments hold that are lists of beds, and lists of lists of beds.
-/
import Derived.Test.YtmopadnkjlodnaaOpn
import Derived.Test.YtmopadnkjlodnaaLxa
namespace Go.Proofs.Ytmopadnkjlodnaa
open Go.RowKit
theorem sat_bedA {w : World} {cs : List Value} (h : Sat w (.slice 1 (.int .i64)) cs) : ∃ a cap, ∃ l : List Int, cs = [.slice a l.length cap] ∧ BedA w a cap l := by
  obtain ⟨a, len, cap, rfl, hn, hl, h⟩ := h
  obtain ⟨l, rfl, hp⟩ := list_of (p := fun i (x : Int) => I64 x ∧ ∃ b o, a = some ⟨b, o, none⟩ ∧ w.cell? ⟨b, o + i, none⟩ = some (.int .i64 x)) len (fun i hi => by
    obtain ⟨b, o, xs, rfl, hlen, hc, x, rfl, hx⟩ := h i hi
    exact ⟨x, i64_of_wf hx, b, o, rfl, by have := hc 0 (by omega); simpa using this⟩)
  exact ⟨a, cap, l, rfl, ⟨fun i hi => let ⟨_, b, o, h1, h2⟩ := hp i hi; ⟨b, o, h1, h2⟩, hn, hl, fun x hx => by
    obtain ⟨i, hi, rfl⟩ := List.mem_iff_getElem.1 hx
    exact (hp i hi).1⟩⟩
theorem sat_vsA {w : World} {cs : List Value} (h : Sat w (.slice 1 (.slice 1 (.int .i64))) cs) : ∃ a cap, ∃ l : List (List Int), cs = [.slice a l.length cap] ∧ VsA w a l := by
  obtain ⟨a, len, cap, rfl, hn, hl, h⟩ := h
  obtain ⟨l, rfl, hp⟩ := list_of (p := fun i (x : List Int) => ∃ b o a' c', a = some ⟨b, o, none⟩ ∧ w.cell? ⟨b, o + i, none⟩ = some (.slice a' x.length c') ∧ BedA w a' c' x) len (fun i hi => by
    obtain ⟨b, o, xs, rfl, hlen, hc, hs⟩ := h i hi
    obtain ⟨a', c', x, rfl, hb⟩ := sat_bedA hs
    exact ⟨x, b, o, a', c', rfl, by have := hc 0 (by omega); simpa using this, hb⟩)
  exact ⟨a, cap, l, rfl, fun i hi => hp i hi⟩
end Go.Proofs.Ytmopadnkjlodnaa
