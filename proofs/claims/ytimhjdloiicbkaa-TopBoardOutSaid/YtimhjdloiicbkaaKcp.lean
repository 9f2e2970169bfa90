/-
  What rounds keep; slices that are read. No program here.
-/
import Derived.Test.YtimhjdloiicbkaaOwn
import Derived.Test.YtimhjdloiicbkaaRfv
import Derived.ArgAppend
namespace Go.Proofs.Ytimhjdloiicbkaa
open Go.RowKit
abbrev S0 : Nat → Prop := fun _ => False
/-- Blocks of cells that are not of S lie as they lay. -/
structure Kc (S : Nat → Prop) (A B : World) : Prop where
  size : A.heap.size ≤ B.heap.size
  keep : ∀ k cs t f, A.heap[k]? = some (.cells cs t f) → ¬ S k → B.heap[k]? = some (.cells cs t f)
theorem Kc.refl (S : Nat → Prop) (A : World) : Kc S A A := ⟨Nat.le_refl _, fun _ _ _ _ h _ => h⟩
theorem Kc.trans {S : Nat → Prop} {A B C : World} (h : Kc S A B) (k : Kc S B C) : Kc S A C := ⟨Nat.le_trans h.size k.size, fun i cs t f hi hs => k.keep i cs t f (h.keep i cs t f hi hs) hs⟩
theorem Kc.of_ext {S : Nat → Prop} {A B : World} (h : Ext A B) : Kc S A B := ⟨h.size, fun _ _ _ _ hi _ => h.heap hi⟩
theorem Kc.ext {S : Nat → Prop} {A B C : World} (h : Kc S A B) (k : Ext B C) : Kc S A C := h.trans (.of_ext k)
theorem Kc.of_chg {S : Nat → Prop} {A B : World} (h : Chg S A B) : Kc S A B := ⟨h.size, fun _ _ _ _ hi hs => h.heap hi hs⟩
theorem Kc.put (S : Nat → Prop) (W : World) (l : Nat) (o o' : Obj) (h : W.heap[l]? = some o) (ho : o.isCells = false) : Kc S W (W.putObj l o') :=
  ⟨(grownBy_putObj' W l o').size, fun k cs t f hk _ => by
    have hne : k ≠ l := by rintro rfl; rw [h] at hk; cases hk; cases ho
    exact (World.putObj_heap_other hne).trans hk⟩
theorem Kc.blk {S : Nat → Prop} {A B : World} (h : Kc S A B) {b : Nat} {cs : Array Value} (hb : Blk A b cs) (hs : ¬ S b) : Blk B b cs := let ⟨t, ht⟩ := hb; ⟨t, h.keep _ _ _ _ ht hs⟩
theorem Ext.of_grown {w w' : World} (h : w.grownBy w' none) : Ext w w' := Chg.to_ext (Ext.refl w) (grown_chg h) (fun i e => by cases e)
theorem Ext.to_grown {w w' : World} (h : Ext w w') : w.grownBy w' none := ⟨Below.os h, Below.tape h, Below.output h, Below.size h, fun k hk _ => Below.block h k hk⟩
/-- A slice of integers that may be read, outside S. -/
def RdI (S : Nat → Prop) (W : World) (v : Value) (xs : List Int) : Prop :=
  (v = .slice none 0 0 ∧ xs = []) ∨ ∃ b o c cs t f, v = .slice (some ⟨b, o, none⟩) xs.length c ∧ xs.length ≤ c ∧ c ≤ maxLen ∧ ¬ S b ∧ W.heap[b]? = some (.cells cs t f) ∧ ∀ i, (h : i < xs.length) → cs[o + i]? = some (.int .i64 xs[i])
theorem RdI.keep {S : Nat → Prop} {A B : World} {v : Value} {xs : List Int} (h : RdI S A v xs) (k : Kc S A B) : RdI S B v xs := by
  rcases h with h | ⟨b, o, c, cs, t, f, h1, h2, h3, h4, h5, h6⟩
  · exact .inl h
  · exact .inr ⟨b, o, c, cs, t, f, h1, h2, h3, h4, k.keep _ _ _ _ h5 h4, h6⟩
theorem RdI.cells {S : Nat → Prop} {W : World} {v : Value} {xs : List Int} (h : RdI S W v xs) : ∃ a c, v = .slice a xs.length c ∧ CellsAt W .i64 a xs ∧ xs.length ≤ c ∧ c ≤ maxLen ∧ (a = none → xs.length = 0 ∧ c = 0) := by
  rcases h with ⟨rfl, rfl⟩ | ⟨b, o, c, cs, t, f, h1, h2, h3, h4, h5, h6⟩
  · exact ⟨none, 0, rfl, CellsAt.nil _ _ _, Nat.le_refl _, by decide, fun _ => ⟨rfl, rfl⟩⟩
  · exact ⟨_, c, h1, fun i hi => ⟨b, o, rfl, by unfold World.cell?; simp only [h5]; exact h6 i hi⟩, h2, h3, fun h => by cases h⟩
theorem RdI.addr {S : Nat → Prop} {W : World} {a : Option Addr} {n c : Nat} {xs : List Int} (h : RdI S W (.slice a n c) xs) : ∀ ad, a = some ad → ∃ b o, ad = ⟨b, o, none⟩ := by
  intro ad ha
  subst ha
  rcases h with ⟨h1, h2⟩ | ⟨b, o, c, cs, t, f, h1, -⟩
  · cases h1
  · cases h1; exact ⟨b, o, rfl⟩
theorem RdI.head {S : Nat → Prop} {W : World} {v : Value} {xs : List Int} (h : RdI S W v xs) (h0 : 0 < xs.length) : ∃ b o c, v = .slice (some ⟨b, o, none⟩) xs.length c ∧ CellsAt W .i64 (some ⟨b, o, none⟩) xs ∧ xs.length ≤ c ∧ c ≤ maxLen := by
  rcases h with ⟨rfl, rfl⟩ | ⟨b, o, c, cs, t, f, h1, h2, h3, h4, h5, h6⟩
  · simp at h0
  · exact ⟨b, o, c, h1, fun i hi => ⟨b, o, rfl, by unfold World.cell?; simp only [h5]; exact h6 i hi⟩, h2, h3⟩
theorem RdI.of_own {S : Nat → Prop} {W : World} {base : Nat} {v : Value} {xs : List Int} (h : OwnI W base v xs) (hS : ∀ k, base ≤ k → ¬ S k) : RdI S W v xs := by
  obtain ⟨h1, ⟨e, h2⟩ | ⟨g, cap, cur, e, h2, h3, h4, h5, h6, h7⟩⟩ := h
  · exact .inl ⟨e, List.length_eq_zero_iff.1 h2⟩
  · refine .inr ⟨g, 0, cap, cur, _, _, e, h4, h5, hS g h2, h3, fun i hi => ?_⟩
    have : (cur.toList.take (xs.length * 1))[i]? = some (.int .i64 xs[i]) := by rw [h7]; simp [hi]
    rw [List.getElem?_take_of_lt (by omega)] at this
    simpa using this
theorem RdI.ext {w w' : World} {v : Value} {xs : List Int} (h : RdI S0 w v xs) (hx : Ext w w') : RdI S0 w' v xs := h.keep (Kc.of_ext hx)
theorem rd_cells {W : World} {a : Option Addr} {n c : Nat} {xs : List Int} (h : RdI S0 W (.slice a n c) xs) : n = xs.length ∧ CellsAt W .i64 a xs := by
  obtain ⟨_, _, e, h1, -⟩ := h.cells
  cases e
  exact ⟨rfl, h1⟩
end Go.Proofs.Ytimhjdloiicbkaa
