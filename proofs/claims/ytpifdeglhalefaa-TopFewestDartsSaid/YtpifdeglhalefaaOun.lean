/-
  Package out: what a yield of Ways may turn: the result's variable, and the row that it names.
-/
import Derived.Test.YtpifdeglhalefaaOum
namespace Go.Proofs.Ytpifdeglhalefaa
open Go.RowKit Go.BigFrame
/-- The block that the slice in a variable names. -/
def RowOf (K : Nat) (W : World) (k : Nat) : Prop := ∃ v, W.cell? ⟨K, 0, none⟩ = some v ∧ v.ownBlock = some k
/-- What a round may turn. -/
structure KpW (K : Nat) (A B : World) : Prop where
  size : A.heap.size ≤ B.heap.size
  keep : ∀ k cs t f, A.heap[k]? = some (.cells cs t f) → k ≠ K → ¬ RowOf K A k → B.heap[k]? = some (.cells cs t f)
  row : ∀ k, RowOf K B k → RowOf K A k ∨ (A.heap.size ≤ k ∧ k < B.heap.size)
  cell : (∃ v, Blk A K #[v]) → ∃ v, Blk B K #[v]
theorem KpW.refl (K : Nat) (A : World) : KpW K A A := ⟨Nat.le_refl _, fun _ _ _ _ h _ _ => h, fun _ h => .inl h, id⟩
theorem KpW.trans {K : Nat} {A B C : World} (h : KpW K A B) (k : KpW K B C) : KpW K A C :=
  ⟨Nat.le_trans h.size k.size, fun i cs t f hi hn hr => k.keep i cs t f (h.keep i cs t f hi hn hr) hn (fun e => by
    rcases h.row i e with e1 | e1
    · exact hr e1
    · have := (Array.getElem?_eq_some_iff.1 hi).1; omega), fun i hi => by
    rcases k.row i hi with e | e
    · rcases h.row i e with e1 | e1
      · exact .inl e1
      · exact .inr ⟨e1.1, Nat.lt_of_lt_of_le e1.2 k.size⟩
    · exact .inr ⟨Nat.le_trans h.size e.1, e.2⟩, fun hc => k.cell (h.cell hc)⟩
theorem KpW.of_ext {K : Nat} {A B : World} (h : Ext A B) (hK : K < A.heap.size) : KpW K A B :=
  ⟨h.size, fun _ _ _ _ hk _ _ => h.heap hk, fun k ⟨v, h1, h2⟩ => .inl ⟨v, by rw [← h1]; exact (World.cell?_of_block (Below.block h K hK)).symm, h2⟩, fun ⟨v, hv⟩ => ⟨v, hv.ext h⟩⟩
theorem KpW.put {K : Nat} {W : World} {l : Nat} {o : Obj} (o' : Obj) (h : W.heap[l]? = some o) (ho : o.isCells = false) (hK : K ≠ l) : KpW K W (W.putObj l o') :=
  ⟨(grownBy_putObj' W l o').size, fun k cs t f hk _ _ => by
    have hne : k ≠ l := by rintro rfl; rw [h] at hk; cases hk; cases ho
    exact (World.putObj_heap_other hne).trans hk, fun k ⟨v, h1, h2⟩ => .inl ⟨v, by rw [← h1]; exact (World.cell?_of_block (World.putObj_heap_other hK)).symm, h2⟩, fun ⟨v, t, ht⟩ => ⟨v, t, (World.putObj_heap_other hK).trans ht⟩⟩
/-- A block that no round turns. -/
def SafeB (K : Nat) (W : World) (k : Nat) : Prop := k < W.heap.size ∧ k ≠ K ∧ ¬ RowOf K W k
theorem SafeB.kp {K : Nat} {A B : World} {k : Nat} (h : SafeB K A k) (hk : KpW K A B) : SafeB K B k :=
  ⟨Nat.lt_of_lt_of_le h.1 hk.size, h.2.1, fun e => by
    rcases hk.row k e with e1 | e1
    · exact h.2.2 e1
    · have := h.1; omega⟩
theorem SafeB.blk {K : Nat} {A B : World} {k : Nat} {cs : Array Value} (h : SafeB K A k) (hb : Blk A k cs) (hk : KpW K A B) : Blk B k cs := let ⟨t, ht⟩ := hb; ⟨t, hk.keep _ _ _ _ ht h.2.1 h.2.2⟩
/-- A slice of integers in a block that no round turns. -/
def RdK (K : Nat) (W : World) (v : Value) (xs : List Int) : Prop := RdI (fun b => ¬ SafeB K W b) W v xs
theorem RdK.kp {K : Nat} {A B : World} {v : Value} {xs : List Int} (h : RdK K A v xs) (hk : KpW K A B) : RdK K B v xs := by
  rcases h with h | ⟨b, o, c, cs, t, f, h1, h2, h3, h4, h5, h6⟩
  · exact .inl h
  · have hs : SafeB K A b := Classical.not_not.1 h4
    exact .inr ⟨b, o, c, cs, t, f, h1, h2, h3, fun e => e (hs.kp hk), hk.keep _ _ _ _ h5 hs.2.1 hs.2.2, h6⟩
theorem RdK.cells {K : Nat} {W : World} {v : Value} {xs : List Int} (h : RdK K W v xs) : ∃ a c, v = .slice a xs.length c ∧ CellsAt W .i64 a xs ∧ xs.length ≤ c ∧ c ≤ maxLen ∧ (a = none → xs.length = 0 ∧ c = 0) := RdI.cells h
/-- A board whose blocks no round turns. -/
structure BdK (K : Nat) (W : World) (kb : Nat) (beds : List Int) (g : Int) (rows : List (List Int)) (ba : Option Addr) (bc : Nat) (cv : Value) : Prop where
  blk : Blk W kb #[.slice ba beds.length bc, .int .i64 g, cv]
  safe : SafeB K W kb
  bed : RdK K W (.slice ba beds.length bc) beds
  rows_ : ∃ cb cc cs t f, cv = .slice (some ⟨cb, 0, none⟩) rows.length cc ∧ SafeB K W cb ∧ W.heap[cb]? = some (.cells cs t f) ∧ ∀ i (h : i < rows.length), ∃ a c, cs[i]? = some (.slice a rows[i].length c) ∧ RdK K W (.slice a rows[i].length c) rows[i]
theorem BdK.kp {K : Nat} {A B : World} {kb : Nat} {beds : List Int} {g : Int} {rows : List (List Int)} {ba : Option Addr} {bc : Nat} {cv : Value} (h : BdK K A kb beds g rows ba bc cv) (hk : KpW K A B) : BdK K B kb beds g rows ba bc cv :=
  let ⟨cb, cc, cs, t, f, h1, h2, h3, h4⟩ := h.rows_
  ⟨h.safe.blk h.blk hk, h.safe.kp hk, h.bed.kp hk, cb, cc, cs, t, f, h1, h2.kp hk, hk.keep _ _ _ _ h3 h2.2.1 h2.2.2, fun i hi => let ⟨a, c, h5, h6⟩ := h4 i hi; ⟨a, c, h5, h6.kp hk⟩⟩
/-- A count of ways, as it is read. -/
theorem BdK.at_ {K : Nat} {W : World} {kb : Nat} {beds : List Int} {g : Int} {rows : List (List Int)} {ba : Option Addr} {bc : Nat} {cv : Value} (h : BdK K W kb beds g rows ba bc cv) {i : Nat} (hi : i < rows.length) {j : Nat} (hj : j < rows[i].length) : ∃ cb cc rb ro rc, cv = .slice (some ⟨cb, 0, none⟩) rows.length cc ∧ W.cell? ⟨cb, i, none⟩ = some (.slice (some ⟨rb, ro, none⟩) rows[i].length rc) ∧ W.cell? ⟨rb, ro + j, none⟩ = some (.int .i64 rows[i][j]) := by
  obtain ⟨cb, cc, cs, t, f, h1, h2, h3, h4⟩ := h.rows_
  obtain ⟨a, c, h5, h6⟩ := h4 i hi
  obtain ⟨a', c', e, h7, -⟩ := h6.cells
  obtain rfl : a = a' := by injection e
  obtain ⟨rb, ro, rfl, h8⟩ := h7 j hj
  exact ⟨cb, cc, rb, ro, c, h1, by simp [World.cell?, h3, h5], h8⟩
/-- The result's variable, and its row, lie in the world. -/
def Vd (K : Nat) (W : World) : Prop := (∃ v, Blk W K #[v]) ∧ ∀ k, RowOf K W k → k < W.heap.size
theorem Vd.kp {K : Nat} {A B : World} (h : Vd K A) (hk : KpW K A B) : Vd K B :=
  ⟨hk.cell h.1, fun k e => by
    rcases hk.row k e with e1 | e1
    · exact Nat.lt_of_lt_of_le (h.2 k e1) hk.size
    · exact e1.2⟩
theorem Vd.lt {K : Nat} {W : World} (h : Vd K W) : K < W.heap.size := let ⟨_, hv⟩ := h.1; hv.lt
theorem SafeB.new {K : Nat} {A B : World} {k : Nat} (h : Vd K A) (hx : Ext A B) (h1 : A.heap.size ≤ k) (h2 : k < B.heap.size) : SafeB K B k :=
  ⟨h2, fun e => by have := h.lt; omega, fun ⟨v, h3, h4⟩ => by
    have := h.2 k ⟨v, by rw [← h3]; exact (World.cell?_of_block (Below.block hx K h.lt)).symm, h4⟩
    omega⟩
theorem KpW.chg {K : Nat} {S : Nat → Prop} {A B C : World} (h : KpW K A B) (hc : Chg S B C) (hs : ∀ k, S k → A.heap.size ≤ k ∧ k ≠ K) (hK : K < B.heap.size) : KpW K A C :=
  ⟨Nat.le_trans h.size hc.size, fun k cs t f hk hn hr => hc.heap (h.keep k cs t f hk hn hr) (fun e => by have := (hs k e).1; have := (Array.getElem?_eq_some_iff.1 hk).1; omega), fun k ⟨v, h1, h2⟩ => by
    rcases h.row k ⟨v, by rw [← h1]; exact (World.cell?_of_block (hc.block K hK (fun e => (hs K e).2 rfl))).symm, h2⟩ with e | e
    · exact .inl e
    · exact .inr ⟨e.1, Nat.lt_of_lt_of_le e.2 hc.size⟩, fun hv => let ⟨v, hb⟩ := h.cell hv; ⟨v, hb.chg hc (fun e => (hs K e).2 rfl)⟩⟩
/-- A block of one's own, that no round turns. -/
def BoxK (K : Nat) (W : World) (k : Nat) (cs : Array Value) : Prop := Blk W k cs ∧ SafeB K W k
theorem BoxK.kp {K : Nat} {A B : World} {k : Nat} {cs : Array Value} (h : BoxK K A k cs) (hk : KpW K A B) : BoxK K B k cs := ⟨h.2.blk h.1 hk, h.2.kp hk⟩
end Go.Proofs.Ytpifdeglhalefaa
