/-
  The statements' board in memory: a board of one's own is one.
-/
import Derived.Test.YtpifdeglhalefaaOan
namespace Go.Proofs.Ytpifdeglhalefaa
open Go.RowKit Go.BigFrame
theorem info_bedA : (Try.prog.info? 33).map (fun i => (i.zero, i.size, i.bytes)) = some (some (.int .i64 0), 1, 8) := by kernel_rfl
theorem cellsA (v : BrdV) (f : Nat → Nat) (wire : Nat) : v.cells (armB f wire) = #[.int .i64 64, .int .i64 159, .slice v.ra 4 v.rc, .slice v.la 20 v.lc, .slice v.na 20 v.nc, .int .i64 ((wire : Int) % 11)] := by
  unfold BrdV.cells armB
  rw [linA_len]
  rfl
theorem own_cells2 {w : World} {base : Nat} {e : TypeId} {a : Option Addr} {n c : Nat} {xs : List Value} (h : w.ownsRow base e 2 (.slice a n c) n xs) (hn : 0 < n) : ∃ b, a = some ⟨b, 0, none⟩ ∧ ∀ i v, xs[i]? = some v → w.cell? ⟨b, i, none⟩ = some v := by
  obtain ⟨h1, ⟨e1, h2⟩ | ⟨g, cap, cur, e1, h2, h3, h4, h5, h6, h7⟩⟩ := h
  · omega
  · cases e1
    refine ⟨g, rfl, fun i v hv => ?_⟩
    have hi := (List.getElem?_eq_some_iff.1 hv).1
    rw [← h7] at hv
    rw [List.getElem?_take_of_lt (by rw [h1] at hi; exact hi)] at hv
    exact Blk.cell ⟨_, h3⟩ i (by simpa using hv)
theorem rgs_flat : ∀ (l : List Rg) (i : Nat) (h : i < l.length), (ringC l)[i * 2]? = some (.int .i64 l[i].outer) ∧ (ringC l)[i * 2 + 1]? = some (.int .i64 l[i].factor)
  | [], i, h => by cases h
  | r :: l, 0, _ => ⟨rfl, rfl⟩
  | r :: l, i + 1, h => by
    have := rgs_flat l i (by simpa using h)
    show ([Value.int .i64 r.outer, .int .i64 r.factor] ++ ringC l)[(i + 1) * 2]? = _ ∧ ([Value.int .i64 r.outer, .int .i64 r.factor] ++ ringC l)[(i + 1) * 2 + 1]? = _
    rw [List.getElem?_append_right (by simp; omega), List.getElem?_append_right (by simp; omega)]
    simp only [List.length_cons, List.length_nil, List.getElem_cons_succ]
    rw [show (i + 1) * 2 - (0 + 1 + 1) = i * 2 by omega, show (i + 1) * 2 + 1 - (0 + 1 + 1) = i * 2 + 1 by omega]
    exact this
theorem pts_flat : ∀ (l : List Pt) (i : Nat) (h : i < l.length), (pntC l)[i * 2]? = some (.int .i64 l[i].x) ∧ (pntC l)[i * 2 + 1]? = some (.int .i64 l[i].y)
  | [], i, h => by cases h
  | r :: l, 0, _ => ⟨rfl, rfl⟩
  | r :: l, i + 1, h => by
    have := pts_flat l i (by simpa using h)
    show ([Value.int .i64 r.x, .int .i64 r.y] ++ pntC l)[(i + 1) * 2]? = _ ∧ ([Value.int .i64 r.x, .int .i64 r.y] ++ pntC l)[(i + 1) * 2 + 1]? = _
    rw [List.getElem?_append_right (by simp; omega), List.getElem?_append_right (by simp; omega)]
    simp only [List.length_cons, List.length_nil, List.getElem_cons_succ]
    rw [show (i + 1) * 2 - (0 + 1 + 1) = i * 2 by omega, show (i + 1) * 2 + 1 - (0 + 1 + 1) = i * 2 + 1 by omega]
    exact this
theorem ArmO.at_ {base : Nat} {W : World} {v : BrdV} {b : Brd} (h : ArmO base W v b) : BrdAt W v b := by
  refine ⟨fun i hi => ?_, fun i hi => ?_, ?_⟩
  · obtain ⟨g, e, hc⟩ := own_cells2 h.rings (by omega)
    have := rgs_flat b.rings i hi
    exact ⟨g, 0, e, by simpa using hc _ _ this.1, by simpa using hc _ _ this.2⟩
  · obtain ⟨g, e, hc⟩ := own_cells2 h.lines (by omega)
    have := pts_flat b.lines i hi
    exact ⟨g, 0, e, by simpa using hc _ _ this.1, by simpa using hc _ _ this.2⟩
  · obtain ⟨nb, e, -, hb⟩ := h.nums
    exact fun i hi => ⟨nb, 0, e, by simpa using hb.blk.cell i (v := .int .i64 b.nums[i]) (by simp [hi])⟩
end Go.Proofs.Ytpifdeglhalefaa
