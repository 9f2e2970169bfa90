/-
  The laws of chapter 6: a leg that is told to Exact, with other numbers of the operations.
-/
import Derived.Test.YtmopadnkjlodnaaNte
namespace Go.Proofs.Ytmopadnkjlodnaa
open Go.RowKit Go.BigFrame
/-- What is known while a leg is told to Exact and put into two variables (operations: i1 an empty list, i3 the beds, i6 the visits, i7 the call, i13 i14 the variables, i15 i16 the stores). -/
structure G7b (s0 : Nat) (bl : List Int) (vs : List (List Int)) (start gin gout : Int) (x : Exa) (L : Nat → Bool) (u : Nat → Value) (W : World) : Prop where
  app : L 3 = true → L 6 = false → OwnD W s0 (u 3) bl
  vis : L 5 = true → L 6 = false → WaysAt W s0 (u 5) vs
  exa : L 6 = true → ∃ la lc sa sc, ExaV start gin gout bl x (u 6) la lc sa sc ∧ OwnD W s0 (.slice la bl.length lc) bl ∧ OwnI W s0 (.slice sa x.scores.length sc) x.scores
  b12 : L 12 = true → ∃ k, u 12 = .pointer (some ⟨k, 0, none⟩) ∧ s0 ≤ k ∧ BlkT W k (bif L 14 then x.t.cells else tot0.cells) 55
  b13 : L 13 = true → ∃ k, u 13 = .pointer (some ⟨k, 0, none⟩) ∧ s0 ≤ k ∧ BlkT W k (bif L 15 then legC7 (u 6) else leg0C) 28
theorem G7b.congr {s0 : Nat} {bl : List Int} {vs : List (List Int)} {start gin gout : Int} {x : Exa} {L L' : Nat → Bool} {u u' : Nat → Value} {W : World} (h : G7b s0 bl vs start gin gout x L u W) (h3 : L' 3 = L 3) (h6 : L' 5 = L 5) (h7 : L' 6 = L 6) (h13 : L' 12 = L 12) (h14 : L' 13 = L 13) (h15 : L' 14 = L 14) (h16 : L' 15 = L 15) (u3 : u' 3 = u 3) (u6 : u' 5 = u 5) (u7 : u' 6 = u 6) (u13 : u' 12 = u 12) (u14 : u' 13 = u 13) : G7b s0 bl vs start gin gout x L' u' W :=
  ⟨by rw [h3, h7, u3]; exact h.app, by rw [h6, h7, u6]; exact h.vis, by rw [h7, u7]; exact h.exa, by rw [h13, h15, u13]; exact h.b12, by rw [h14, h16, u14, u7]; exact h.b13⟩
theorem G7b.ext {s0 : Nat} {bl : List Int} {vs : List (List Int)} {start gin gout : Int} {x : Exa} {L : Nat → Bool} {u : Nat → Value} {W W' : World} (h : G7b s0 bl vs start gin gout x L u W) (hx : Ext W W') : G7b s0 bl vs start gin gout x L u W' :=
  ⟨fun e f => OwnD.ext (h.app e f) hx, fun e f => (h.vis e f).ext hx, fun e => let ⟨la, lc, sa, sc, h1, h2, h3⟩ := h.exa e; ⟨la, lc, sa, sc, h1, OwnD.ext h2 hx, own_chg h3 (hx.chg fun _ => False) fun _ _ => id⟩, fun e => let ⟨k, h1, h2, h3⟩ := h.b12 e; ⟨k, h1, h2, h3.ext hx⟩, fun e => let ⟨k, h1, h2, h3⟩ := h.b13 e; ⟨k, h1, h2, h3.ext hx⟩⟩
def R7b (bl : List Int) (vs : List (List Int)) (start gin gout : Int) (x : Exa) (k : Nat) (v : Value) : Prop := (k = 1 → ∃ b, v = .slice (some ⟨b, 0, none⟩) 0 0) ∧ (k = 3 → ∃ a c, v = .slice a bl.length c) ∧ (k = 5 → ∃ a c, v = .slice a vs.length c) ∧ (k = 6 → ∃ la lc sa sc, ExaV start gin gout bl x v la lc sa sc) ∧ (k = 12 → ∃ b, v = .pointer (some ⟨b, 0, none⟩)) ∧ (k = 13 → ∃ b, v = .pointer (some ⟨b, 0, none⟩))
def w7Wb (bl : List Int) (vs : List (List Int)) (start gin gout : Int) (x : Exa) (k : Nat) : Value := if k = 1 then .slice (some ⟨0, 0, none⟩) 0 0 else if k = 3 then .slice none bl.length 0 else if k = 5 then .slice none vs.length 0 else if k = 6 then .tuple #[.agg x.t.cells, .agg #[.int .i64 start, .int .i64 gin, .int .i64 gout, .slice none bl.length 0, .slice none x.scores.length 0, .bool x.won], .int .i64 0, .int .i64 0] else .pointer (some ⟨0, 0, none⟩)
theorem w7Wb_ok (bl : List Int) (vs : List (List Int)) (start gin gout : Int) (x : Exa) (k : Nat) : R7b bl vs start gin gout x k (w7Wb bl vs start gin gout x k) := by
  unfold R7b w7Wb
  refine ⟨?_, ?_, ?_, ?_, ?_, ?_⟩ <;> rintro rfl
  · exact ⟨0, rfl⟩
  · exact ⟨none, 0, rfl⟩
  · exact ⟨none, 0, rfl⟩
  · exact ⟨none, 0, none, 0, rfl⟩
  · exact ⟨0, rfl⟩
  · exact ⟨0, rfl⟩
end Go.Proofs.Ytmopadnkjlodnaa
