/-
  Slices that can be read, as any argument.
-/
import Derived.Test.YtmopadnkjlodnaaMad
import Derived.Test.YtmopadnkjlodnaaMsp
import Derived.Test.YtmopadnkjlodnaaMtd
import Derived.Test.YtmopadnkjlodnaaKns
namespace Go.Proofs.Ytmopadnkjlodnaa
open Go.RowKit Go.BigFrame
attribute [local go_sem] Later.cell Later.frozen
/-- A readable slice of integers, of an argument. -/
structure BedA (w : World) (a : Option Addr) (c : Nat) (xs : List Int) : Prop where
  cells : CellsAt w .i64 a xs
  nil : a = none → xs.length = 0 ∧ c = 0
  cap : xs.length ≤ c ∧ c ≤ maxLen
  i64 : ∀ x ∈ xs, I64 x
theorem BedA.ext {w w' : World} {a : Option Addr} {c : Nat} {xs : List Int} (h : BedA w a c xs) (hx : Ext w w') : BedA w' a c xs := ⟨h.cells.ext hx, h.nil, h.cap, h.i64⟩
theorem BedA.own {w : World} {base : Nat} {a : Option Addr} {c : Nat} {xs : List Int} (h : OwnD w base (.slice a xs.length c) xs) (hi : ∀ x ∈ xs, I64 x) : BedA w a c xs := by
  obtain ⟨a', c', e, h1, h2, h3, h4⟩ := (h.rd (S := S0) (fun _ _ h => h)).cells
  cases e
  exact ⟨h1, h4, ⟨h2, h3⟩, hi⟩
theorem BedA.ownI {w : World} {base : Nat} {a : Option Addr} {c : Nat} {xs : List Int} (h : OwnI w base (.slice a xs.length c) xs) (hi : ∀ x ∈ xs, I64 x) : BedA w a c xs := by
  obtain ⟨a', c', e, h1, h2, h3, h4⟩ := (RdI.of_own h (S := S0) (fun _ _ h => h)).cells
  cases e
  exact ⟨h1, h4, ⟨h2, h3⟩, hi⟩
/-- Rows of them. -/
def VsA (w : World) (va : Option Addr) (vs : List (List Int)) : Prop := ∀ i (h : i < vs.length), ∃ b o a c, va = some ⟨b, o, none⟩ ∧ w.cell? ⟨b, o + i, none⟩ = some (.slice a vs[i].length c) ∧ BedA w a c vs[i]
theorem VsA.ext {w w' : World} {va : Option Addr} {vs : List (List Int)} (h : VsA w va vs) (hx : Ext w w') : VsA w' va vs := fun i hi => let ⟨b, o, a, c, h1, h2, h3⟩ := h i hi; ⟨b, o, a, c, h1, hx.cell h2, h3.ext hx⟩
theorem VsA.vss {w : World} {va : Option Addr} {vs : List (List Int)} (h : VsA w va vs) (hl : ∀ v ∈ vs, v.length ≤ 1000) : VssAt w va vs := fun i hi => let ⟨b, o, a, c, h1, h2, h3⟩ := h i hi; ⟨b, o, a, c, h1, h2, h3.cells, h3.cap, h3.i64, hl _ (List.getElem_mem hi)⟩
theorem vss_one {w : World} {a : Option Addr} {c n : Nat} {xs : List Int} (t : TypeId) (hn : n = w.heap.size) (h : BedA w a c xs) (hl : xs.length ≤ 1000) : VssAt (w.alloc (.cells #[.slice a xs.length c] t)) (some ⟨n, 0, none⟩) [xs] := fun i hi => by
  subst hn
  obtain rfl : i = 0 := by simpa using hi
  have h2 := h.ext ((Ext.refl w).alloc (.cells #[.slice a xs.length c] t))
  exact ⟨_, _, a, c, rfl, (Blk.new w _ _).cell 0 rfl, h2.cells, h2.cap, h2.i64, hl⟩
theorem ways_vsa {w : World} {base : Nat} {v : Value} {ws : List (List Int)} (h : WaysAt w base v ws) (hi : ∀ x ∈ ws, ∀ y ∈ x, I64 y) : ∃ a c, v = .slice a ws.length c ∧ VsA w a ws := by
  obtain ⟨vals, h1, h2, h3⟩ := h
  have hc := fun g (hg : v.ownBlock = some g) => World.ownsRow.cells (w := w) (g := g) h1 hg
  obtain ⟨h4, ⟨e, h5⟩ | ⟨g, cap, cur, e, h5, h6, h7⟩⟩ := h1
  · have : ws = [] := List.length_eq_zero_iff.1 h5
    subst this
    exact ⟨none, 0, e, fun i hi => absurd hi (by simp)⟩
  · refine ⟨some ⟨g, 0, none⟩, cap, e, fun i hlt => ?_⟩
    obtain ⟨a, c, h8, h9⟩ := h3 i hlt
    refine ⟨g, 0, a, c, rfl, ?_, BedA.own h9 (hi _ (List.getElem_mem hlt))⟩
    have := hc g (by rw [e]; rfl) i _ h8
    rwa [addr_add] at this
end Go.Proofs.Ytmopadnkjlodnaa
