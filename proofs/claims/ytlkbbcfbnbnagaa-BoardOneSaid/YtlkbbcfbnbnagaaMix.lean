/-
  Rows that are written cell by cell; the copy of a board that is written to.
-/
import Derived.Test.YtlkbbcfbnbnagaaSto
namespace Go.Proofs.Ytlkbbcfbnbnagaa
open Go.RowKit
def mixL {α : Type} (a b : List α) (k : Nat) : List α := a.take k ++ b.drop k
theorem mix_zero {α : Type} (a b : List α) : mixL a b 0 = b := by unfold mixL; simp
theorem mix_all {α : Type} {a b : List α} (h : a.length = b.length) : mixL a b b.length = a := by unfold mixL; rw [List.take_of_length_le (by omega), List.drop_eq_nil_of_le (Nat.le_refl _), List.append_nil]
theorem mix_len {α : Type} {a b : List α} (h : a.length = b.length) (k : Nat) : (mixL a b k).length = b.length := by unfold mixL; rw [List.length_append, List.length_take, List.length_drop]; omega
theorem mix_set {α : Type} {a b : List α} (h : a.length = b.length) {k : Nat} (hk : k < a.length) : (mixL a b k).set k a[k] = mixL a b (k + 1) := by
  unfold mixL
  have hl : (a.take k).length = k := by rw [List.length_take]; omega
  rw [List.set_append_right _ _ (by omega), hl, Nat.sub_self, List.drop_eq_getElem_cons (by omega), List.set_cons_zero, List.take_succ_eq_append_getElem hk, List.append_assoc]
  rfl
theorem mix_get {α : Type} {a b : List α} (h : a.length = b.length) {k : Nat} (hk : k < b.length) : (mixL a b k)[k]? = some b[k] := by
  unfold mixL
  rw [List.getElem?_append_right (by rw [List.length_take]; omega), List.length_take, List.getElem?_drop]
  have e : k + (k - min k a.length) = k := by omega
  rw [e]
  exact List.getElem?_eq_getElem hk
theorem own_setN {w : World} {base g n cap i size : Nat} {e : TypeId} {xs : List Value} (h : w.ownsRow base e size (.slice (some ⟨g, 0, none⟩) n cap) n xs) (u : Value) : (w.setCell ⟨g, i, none⟩ u).ownsRow base e size (.slice (some ⟨g, 0, none⟩) n cap) n (xs.set i u) := by
  obtain ⟨h1, ⟨e1, _⟩ | ⟨g', cap', cur, e1, h2, h3, h4, h5, h6, h7⟩⟩ := h
  · cases e1
  cases e1
  refine ⟨by simpa using h1, .inr ⟨g, cap, _, rfl, h2, heap_set_same h3, h4, h5, by simpa using h6, ?_⟩⟩
  rw [Array.toList_setIfInBounds, List.take_set, h7]
theorem own_cellN {w : World} {base g n cap size : Nat} {e : TypeId} {xs : List Value} (h : w.ownsRow base e size (.slice (some ⟨g, 0, none⟩) n cap) n xs) {j : Nat} {u : Value} (hj : xs[j]? = some u) : w.cell? ⟨g, j, none⟩ = some u ∧ w.frozen? ⟨g, j, none⟩ = false ∧ g < w.heap.size := by
  have hl := (World.ownsRow.lt h g rfl).2
  have hc := World.ownsRow.cells (w := w) (g := g) h rfl j u hj
  rw [addr_add, Nat.zero_add] at hc
  refine ⟨hc, ?_, hl⟩
  obtain ⟨h1, ⟨e, h2⟩ | ⟨g', cap, cur, e, h2, h3, h4, h5, h6⟩⟩ := h
  · cases e
  · cases e
    exact Blk.frozen ⟨_, h3⟩ j
theorem pts_set : ∀ (l : List Pt) (i : Nat) (p : Pt), i < l.length → ((l.flatMap Pt.cells).set (i * 2) (.int .i64 p.x)).set (i * 2 + 1) (.int .i64 p.y) = (l.set i p).flatMap Pt.cells
  | [], i, p, h => by simp at h
  | a :: l, 0, p, _ => rfl
  | a :: l, i + 1, p, h => by
    have ih := pts_set l i p (by simpa using h)
    rw [List.set_cons_succ, List.flatMap_cons, List.flatMap_cons, ← ih]
    show ((Value.int .i64 a.x :: Value.int .i64 a.y :: l.flatMap Pt.cells).set ((i + 1) * 2) _).set ((i + 1) * 2 + 1) _ = _
    rw [show (i + 1) * 2 = i * 2 + 1 + 1 by omega, List.set_cons_succ, List.set_cons_succ, List.set_cons_succ, List.set_cons_succ]
    rfl
/-- What is left of a region: variables and rows of one's own, no two the same. -/
theorem frm_join {lo s : Nat} {w1 w : World} {k : Nat} {cs : Array Value} {v1 v2 v3 : Value} {e1 e2 e3 : TypeId} {n1 n2 n3 z1 z2 z3 : Nat} {x1 x2 x3 : List Value} {φ : Prop}
    (hF : Frm lo [Res.snap (s, w1), Res.pure φ, Res.blk k cs] w) (hlo : lo ≤ s) (hA : Chg (fun k => lo ≤ k ∧ k < s) w1 w)
    (h1 : w1.ownsRow s e1 z1 v1 n1 x1) (h2 : w1.ownsRow s e2 z2 v2 n2 x2) (h3 : w1.ownsRow s e3 z3 v3 n3 x3)
    (p12 : ∀ j, v1.ownBlock = some j → ¬ v2.ownBlock = some j) (p13 : ∀ j, v1.ownBlock = some j → ¬ v3.ownBlock = some j) (p23 : ∀ j, v2.ownBlock = some j → ¬ v3.ownBlock = some j) :
    Frm lo [Res.blk k cs, Res.own lo e1 z1 v1 n1 x1, Res.own lo e2 z2 v2 n2 x2, Res.own lo e3 z3 v3 n3 x3] w := by
  have hk := hF.lt 2 rfl k rfl
  have hd := hF.parts 0 2 _ _ rfl rfl (by decide)
  have l1 := own_lt h1
  have l2 := own_lt h2
  have l3 := own_lt h3
  have hsz := hA.size
  have hd' : ∀ j, (s ≤ j ∧ j < w1.heap.size) → j ≠ k := fun j hj => hd j hj
  have a1 := own_mono (own_chg h1 hA (fun j e h => by have := l1 j e; omega)) hlo
  have a2 := own_mono (own_chg h2 hA (fun j e h => by have := l2 j e; omega)) hlo
  have a3 := own_mono (own_chg h3 hA (fun j e h => by have := l3 j e; omega)) hlo
  have hb := hF.get 2 rfl
  refine ⟨fun i r hr => ?_, fun i j r t hr ht hij q hq hq' => ?_⟩
  · match i, hr with
    | 0, hr => cases hr; exact ⟨hb, fun q hq => by have hq : q = k := hq; subst hq; exact hk⟩
    | 1, hr => cases hr; exact ⟨a1, fun q hq => by have := l1 q hq; omega⟩
    | 2, hr => cases hr; exact ⟨a2, fun q hq => by have := l2 q hq; omega⟩
    | 3, hr => cases hr; exact ⟨a3, fun q hq => by have := l3 q hq; omega⟩
    | i + 4, hr => cases hr
  · match i, j, hr, ht with
    | 0, 0, _, _ => exact hij rfl
    | 0, 1, hr, ht => cases hr; cases ht; exact hd' q (l1 q hq') hq
    | 0, 2, hr, ht => cases hr; cases ht; exact hd' q (l2 q hq') hq
    | 0, 3, hr, ht => cases hr; cases ht; exact hd' q (l3 q hq') hq
    | 1, 0, hr, ht => cases hr; cases ht; exact hd' q (l1 q hq) hq'
    | 1, 1, _, _ => exact hij rfl
    | 1, 2, hr, ht => cases hr; cases ht; exact p12 q hq hq'
    | 1, 3, hr, ht => cases hr; cases ht; exact p13 q hq hq'
    | 2, 0, hr, ht => cases hr; cases ht; exact hd' q (l2 q hq) hq'
    | 2, 1, hr, ht => cases hr; cases ht; exact p12 q hq' hq
    | 2, 2, _, _ => exact hij rfl
    | 2, 3, hr, ht => cases hr; cases ht; exact p23 q hq hq'
    | 3, 0, hr, ht => cases hr; cases ht; exact hd' q (l3 q hq) hq'
    | 3, 1, hr, ht => cases hr; cases ht; exact p13 q hq' hq
    | 3, 2, hr, ht => cases hr; cases ht; exact p23 q hq' hq
    | 3, 3, _, _ => exact hij rfl
    | i + 4, _, hr, _ => cases hr
    | 0, j + 4, _, ht => cases ht
    | 1, j + 4, _, ht => cases ht
    | 2, j + 4, _, ht => cases ht
    | 3, j + 4, _, ht => cases ht
/-- A copy that may be written to. -/
def OwnF (b : Brd) (v : Value) (s : Nat) (w : World) : Prop := ∃ v' : BrdV, v = .agg (v'.cells b) ∧ OwnRg w s (.slice v'.ra b.rings.length v'.rc) b.rings ∧ OwnPt w s (.slice v'.la b.lines.length v'.lc) b.lines ∧ OwnI w s (.slice v'.na b.nums.length v'.nc) b.nums ∧
  (∀ k, (Value.slice v'.la b.lines.length v'.lc).ownBlock = some k → ¬ (Value.slice v'.na b.nums.length v'.nc).ownBlock = some k) ∧ (∀ k, (Value.slice v'.ra b.rings.length v'.rc).ownBlock = some k → ¬ (Value.slice v'.la b.lines.length v'.lc).ownBlock = some k) ∧ (∀ k, (Value.slice v'.ra b.rings.length v'.rc).ownBlock = some k → ¬ (Value.slice v'.na b.nums.length v'.nc).ownBlock = some k)
end Go.Proofs.Ytlkbbcfbnbnagaa
