/-
  Lists of darts at the bull of one's own, and rows of them.
-/
import Derived.Test.YtpifdeglhalefaaTog
import Derived.Test.YtpifdeglhalefaaOuf
namespace Go.Proofs.Ytpifdeglhalefaa
open Go.RowKit Go.BigFrame
def cellsF (o : Toss) : List Value := [.int .i64 o.bed, .int .i64 o.far]
/-- A list of darts at the bull of one's own. -/
def OwnF (w : World) (base : Nat) (v : Value) (l : List Toss) : Prop := w.ownsRow base 35 2 v l.length (l.flatMap cellsF)
theorem OwnF.ext {w w' : World} {base : Nat} {v : Value} {l : List Toss} (h : OwnF w base v l) (hx : Ext w w') : OwnF w' base v l := own_chg h (hx.chg fun _ => False) fun _ _ => id
/-- Two slices in blocks of their own. -/
def ApartV (v u : Value) : Prop := ∀ q, v.ownBlock = some q → ¬ u.ownBlock = some q
theorem ApartV.symm {v u : Value} (h : ApartV v u) : ApartV u v := fun q h1 h2 => h q h2 h1
theorem ApartV.step {v v' u : Value} {N M : Nat} (h : ApartV v u) (hn : ∀ k, v'.ownBlock = some k → v.ownBlock = some k ∨ (N ≤ k ∧ k < M)) (hu : ∀ k, u.ownBlock = some k → k < N) : ApartV v' u := fun q h1 h2 => by
  rcases hn q h1 with h3 | h3
  · exact h q h3 h2
  · have := hu q h2
    omega
/-- Rows of darts at the bull of one's own. -/
def RowF (w : World) (base : Nat) (v : Value) (ws : List (List Toss)) : Prop := ∃ vals : List Value, w.ownsRow base 38 1 v ws.length vals ∧ vals.length = ws.length ∧ ∀ i (h : i < ws.length), ∃ a c, vals[i]? = some (.slice a ws[i].length c) ∧ OwnF w base (.slice a ws[i].length c) ws[i]
theorem RowF.ext {w w' : World} {base : Nat} {v : Value} {ws : List (List Toss)} (h : RowF w base v ws) (hx : Ext w w') : RowF w' base v ws :=
  let ⟨vals, h1, h2, h3⟩ := h; ⟨vals, own_chg h1 (hx.chg fun _ => False) fun _ _ => id, h2, fun i hi => let ⟨a, c, h4, h5⟩ := h3 i hi; ⟨a, c, h4, h5.ext hx⟩⟩
theorem RowF.shape {w : World} {base : Nat} {v : Value} {ws : List (List Toss)} (h : RowF w base v ws) : ∃ a c, v = .slice a ws.length c := let ⟨_, h1, _⟩ := h; own_shape h1
theorem RowF.lt {w : World} {base : Nat} {v : Value} {ws : List (List Toss)} (h : RowF w base v ws) : ∀ k, v.ownBlock = some k → k < w.heap.size := fun k hk => let ⟨_, h1, _⟩ := h; (World.ownsRow.lt h1 k hk).2
theorem RowF.from {w : World} {base : Nat} {v : Value} {ws : List (List Toss)} (h : RowF w base v ws) : ∀ k, v.ownBlock = some k → base ≤ k := fun k hk => let ⟨_, h1, _⟩ := h; (World.ownsRow.lt h1 k hk).1
theorem typesF {w : World} {base base' z z' n n' : Nat} {e e' : TypeId} {v u : Value} {xs ys : List Value} (h : w.ownsRow base e z v n xs) (hu : w.ownsRow base' e' z' u n' ys) (hne : e ≠ e') : ∀ k, u.ownBlock = some k → ¬ v.ownBlock = some k := by
  intro k hk e3
  obtain ⟨_, e1⟩ := own_typeO hu hk
  obtain ⟨_, e2⟩ := own_typeO h e3
  rw [e1] at e2
  injection e2 with e2
  injection e2 with _ e4 _
  exact hne e4.symm
/-- One more, behind an append. -/
theorem RowF.snoc {w w' : World} {base : Nat} {v v' : Value} {ws : List (List Toss)} {way : List Toss} {a : Option Addr} {c : Nat} {vals : List Value} (h1 : w.ownsRow base 38 1 v ws.length vals) (h2 : vals.length = ws.length) (h3 : ∀ i (h : i < ws.length), ∃ a c, vals[i]? = some (.slice a ws[i].length c) ∧ OwnF w base (.slice a ws[i].length c) ws[i]) (hw : OwnF w base (.slice a way.length c) way)
    (hrow : w'.ownsRow base 38 1 v' (ws.length + 1) (vals ++ [.slice a way.length c])) (hx : Chg (fun k => v.ownBlock = some k) w w') : RowF w' base v' (ws ++ [way]) := by
  refine ⟨vals ++ [.slice a way.length c], by simpa using hrow, by simp [h2], fun i hi => ?_⟩
  by_cases hlt : i < ws.length
  · obtain ⟨a', c', h4, h5⟩ := h3 i hlt
    rw [List.getElem_append_left hlt, List.getElem?_append_left (by omega)]
    exact ⟨a', c', h4, own_chg h5 hx (typesF h1 h5 (by decide))⟩
  · have : i = ws.length := by simp at hi; omega
    subst this
    rw [List.getElem_append_right (Nat.le_refl _), List.getElem?_append_right (by omega)]
    simp only [h2, Nat.sub_self]
    exact ⟨a, c, by simp, own_chg hw hx (typesF h1 hw (by decide))⟩
/-- Another list of rows has grown. -/
theorem RowF.apart {w w' : World} {base : Nat} {v u : Value} {ws : List (List Toss)} {n : Nat} {ys : List Value} (h : RowF w base v ws) (hu : w.ownsRow base 38 1 u n ys) (ha : ApartV v u) (hx : Chg (fun k => u.ownBlock = some k) w w') : RowF w' base v ws :=
  let ⟨vals, h1, h2, h3⟩ := h; ⟨vals, own_chg h1 hx ha, h2, fun i hi => let ⟨a, c, h4, h5⟩ := h3 i hi; ⟨a, c, h4, own_chg h5 hx (typesF hu h5 (by decide))⟩⟩
theorem toss_flat : ∀ (l : List Toss) (i : Nat) (h : i < l.length), (l.flatMap cellsF)[i * 2]? = some (.int .i64 l[i].bed) ∧ (l.flatMap cellsF)[i * 2 + 1]? = some (.int .i64 l[i].far)
  | [], i, h => by cases h
  | r :: l, 0, _ => ⟨rfl, rfl⟩
  | r :: l, i + 1, h => by
    have := toss_flat l i (by simpa using h)
    rw [List.flatMap_cons]
    show ([Value.int .i64 r.bed, .int .i64 r.far] ++ l.flatMap cellsF)[(i + 1) * 2]? = _ ∧ ([Value.int .i64 r.bed, .int .i64 r.far] ++ l.flatMap cellsF)[(i + 1) * 2 + 1]? = _
    rw [List.getElem?_append_right (by simp; omega), List.getElem?_append_right (by simp; omega)]
    simp only [List.length_cons, List.length_nil, List.getElem_cons_succ]
    rw [show (i + 1) * 2 - (0 + 1 + 1) = i * 2 by omega, show (i + 1) * 2 + 1 - (0 + 1 + 1) = i * 2 + 1 by omega]
    exact this
theorem own_cellsN {w : World} {base z : Nat} {e : TypeId} {a : Option Addr} {n c : Nat} {xs : List Value} (h : w.ownsRow base e z (.slice a n c) n xs) (hn : 0 < n) : ∃ b, a = some ⟨b, 0, none⟩ ∧ ∀ i v, xs[i]? = some v → w.cell? ⟨b, i, none⟩ = some v := by
  obtain ⟨h1, ⟨e1, h2⟩ | ⟨g, cap, cur, e1, h2, h3, h4, h5, h6, h7⟩⟩ := h
  · omega
  · cases e1
    refine ⟨g, rfl, fun i v hv => ?_⟩
    have hi := (List.getElem?_eq_some_iff.1 hv).1
    rw [← h7] at hv
    rw [List.getElem?_take_of_lt (by rw [h1] at hi; exact hi)] at hv
    exact Blk.cell ⟨_, h3⟩ i (by simpa using hv)
theorem OwnF.toss {w : World} {base : Nat} {a : Option Addr} {c : Nat} {l : List Toss} (h : OwnF w base (.slice a l.length c) l) : TossAt w a l := fun i hi => by
  obtain ⟨g, e, hc⟩ := own_cellsN h (by omega)
  have := toss_flat l i hi
  exact ⟨g, 0, e, by simpa using hc _ _ this.1, by simpa using hc _ _ this.2⟩
theorem RowF.rounds {w : World} {base : Nat} {a : Option Addr} {c : Nat} {ws : List (List Toss)} (h : RowF w base (.slice a ws.length c) ws) : RoundsAt w a ws := fun i hi => by
  obtain ⟨vals, h1, h2, h3⟩ := h
  obtain ⟨a', c', h4, h5⟩ := h3 i hi
  obtain ⟨g, e, hc⟩ := own_cellsN h1 (by omega)
  exact ⟨g, 0, a', c', e, by simpa using hc _ _ h4, h5.toss⟩
theorem info_off : (Try.prog.info? 35).map (fun i => (i.zero, i.size, i.bytes)) = some (some (.agg #[.int .i64 0, .int .i64 0]), 2, 16) := by kernel_rfl
theorem info_offs : (Try.prog.info? 38).map (fun i => (i.zero, i.size, i.bytes)) = some (some (.slice none 0 0), 1, 24) := by kernel_rfl
end Go.Proofs.Ytpifdeglhalefaa
