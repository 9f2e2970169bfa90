/-
  What an argument that is a leg holds.
-/
import Derived.Test.YtmopadnkjlodnaaOpl
namespace Go.Proofs.Ytmopadnkjlodnaa
open Go.RowKit
def legS : Shp := .pair (.pair (.int .i64) (.pair (.int .i64) (.pair (.int .i64) .nil))) (.pair (.slice 1 (.int .i64)) (.pair (.slice 1 (.int .i64)) (.pair .bool .nil)))
theorem sat_leg {w : World} {cs : List Value} (h : Sat w legS cs) : ∃ (start gin gout : Int) (beds : List Int) (ba : Option Addr) (bc : Nat) (scores : List Int) (sa : Option Addr) (sc : Nat) (won : Bool), cs = [.int .i64 start, .int .i64 gin, .int .i64 gout, .slice ba beds.length bc, .slice sa scores.length sc, .bool won] ∧ I64 start ∧ BedA w ba bc beds ∧ BedA w sa sc scores := by
  obtain ⟨_, _, rfl, ⟨_, _, rfl, ⟨start, rfl, hs⟩, _, _, rfl, ⟨gin, rfl, -⟩, _, _, rfl, ⟨gout, rfl, -⟩, rfl⟩, _, _, rfl, hb, _, _, rfl, hc, _, _, rfl, ⟨won, rfl⟩, rfl⟩ := h
  obtain ⟨ba, bc, beds, rfl, h1⟩ := sat_bedA hb
  obtain ⟨sa, sc, scores, rfl, h2⟩ := sat_bedA hc
  exact ⟨start, gin, gout, beds, ba, bc, scores, sa, sc, won, rfl, i64_of_wf hs, h1, h2⟩
end Go.Proofs.Ytmopadnkjlodnaa
