/-
  What an argument that is a row of legs holds.
-/
import Derived.Test.YtmopadnkjlodnaaOpm
import Derived.Test.YtmopadnkjlodnaaRtl
namespace Go.Proofs.Ytmopadnkjlodnaa
open Go.RowKit
theorem sat_legs {w : World} {cs : List Value} (h : Sat w (.slice 6 legS) cs) : ∃ a cap, ∃ l : List Leg, cs = [.slice a l.length cap] ∧ LgsA w a l := by
  obtain ⟨a, len, cap, rfl, -, -, h⟩ := h
  obtain ⟨l, rfl, hp⟩ := list_of (p := fun i (x : Leg) => ∃ b o ba sa bc sc, a = some ⟨b, o, none⟩ ∧ (∀ j u, (x.cells ba sa bc sc)[j]? = some u → w.cell? ⟨b, o + i * 6 + j, none⟩ = some u) ∧ BedA w ba bc x.beds ∧ BedA w sa sc x.scores ∧ I64 x.start) len (fun i hi => by
    obtain ⟨b, o, xs, rfl, hlen, hc, hs⟩ := h i hi
    obtain ⟨st, gi, go, bs, ba, bc, ss, sa, sc, wn, rfl, h1, h2, h3⟩ := sat_leg hs
    refine ⟨⟨st, gi, go, bs, ss, wn⟩, b, o, ba, sa, bc, sc, rfl, fun j u hu => ?_, h2, h3, h1⟩
    have hj : j < 6 := (List.getElem?_eq_some_iff.1 hu).1
    have := hc j hj
    rw [Nat.add_assoc, this]
    exact hu)
  exact ⟨a, cap, l, rfl, hp⟩
end Go.Proofs.Ytmopadnkjlodnaa
