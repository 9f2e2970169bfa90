/-
  Package out: rows of counts in memory; the last row; all ways out of a score.
-/
import Derived.Test.YtpifdeglhalefaaOue
namespace Go.Proofs.Ytpifdeglhalefaa
open Go.RowKit Go.BigFrame
attribute [local go_sem] Oper.semAt_some Later.cell Later.frozen Lat.cell Lat.frozen NoX
theorem own_typeO {w : World} {base : Nat} {e : TypeId} {size : Nat} {v : Value} {n : Nat} {xs : List Value} (h : w.ownsRow base e size v n xs) {k : Nat} (hk : v.ownBlock = some k) : ∃ cs, w.heap[k]? = some (.cells cs e (0, 0)) := by
  obtain ⟨-, ⟨e1, -⟩ | ⟨g, cap, cur, e1, -, h3, -⟩⟩ := h
  · rw [e1] at hk; cases hk
  · rw [e1] at hk; cases hk; exact ⟨_, h3⟩
/-- Rows of integers of one's own. -/
def RowsO (w : World) (base : Nat) (v : Value) (ws : List (List Int)) : Prop := ∃ vals : List Value, w.ownsRow base 25 1 v ws.length vals ∧ vals.length = ws.length ∧ ∀ i (h : i < ws.length), ∃ a c, vals[i]? = some (.slice a ws[i].length c) ∧ OwnI w base (.slice a ws[i].length c) ws[i]
theorem RowsO.nil (w : World) (base : Nat) : RowsO w base (.slice none 0 0) [] := ⟨[], World.ownsRow_nil w base _ _, rfl, fun i hi => absurd hi (by simp)⟩
theorem RowsO.shape {w : World} {base : Nat} {v : Value} {ws : List (List Int)} (h : RowsO w base v ws) : ∃ a c, v = .slice a ws.length c := let ⟨_, h1, _⟩ := h; own_shape h1
theorem RowsO.ext {w w' : World} {base : Nat} {v : Value} {ws : List (List Int)} (h : RowsO w base v ws) (hx : Ext w w') : RowsO w' base v ws :=
  let ⟨vals, h1, h2, h3⟩ := h; ⟨vals, own_chg h1 (hx.chg fun _ => False) fun _ _ => id, h2, fun i hi => let ⟨a, c, h4, h5⟩ := h3 i hi; ⟨a, c, h4, h5.ext hx⟩⟩
theorem RowsO.mono {w : World} {base base' : Nat} {v : Value} {ws : List (List Int)} (h : RowsO w base v ws) (hb : base' ≤ base) : RowsO w base' v ws :=
  let ⟨vals, h1, h2, h3⟩ := h; ⟨vals, own_mono h1 hb, h2, fun i hi => let ⟨a, c, h4, h5⟩ := h3 i hi; ⟨a, c, h4, own_mono h5 hb⟩⟩
/-- A block of another type has been turned. -/
theorem RowsO.off {w w' : World} {base b : Nat} {cs : Array Value} {t : TypeId} {f : Nat × Nat} {v : Value} {ws : List (List Int)} (h : RowsO w base v ws) (hb : w.heap[b]? = some (.cells cs t f)) (h1 : t ≠ 25) (h2 : t ≠ 3) (hx : Chg (· = b) w w') : RowsO w' base v ws := by
  have key : ∀ {e : TypeId} {z : Nat} {u : Value} {n : Nat} {ys : List Value}, w.ownsRow base e z u n ys → t ≠ e → ∀ k, u.ownBlock = some k → ¬ k = b := by
    intro e z u n ys hu hne k hk e'
    obtain ⟨_, e1⟩ := own_typeO hu hk
    rw [e', hb] at e1
    injection e1 with e1
    injection e1 with _ e2 _
    exact hne e2
  obtain ⟨vals, r1, r2, r3⟩ := h
  exact ⟨vals, own_chg r1 hx (key r1 h1), r2, fun i hi => let ⟨a, c, h4, h5⟩ := r3 i hi; ⟨a, c, h4, own_chg h5 hx (key h5 h2)⟩⟩
/-- One more, behind an append. -/
theorem RowsO.snoc {w w' : World} {base : Nat} {v v' : Value} {ws : List (List Int)} {way : List Int} {a : Option Addr} {c : Nat} {vals : List Value} (h1 : w.ownsRow base 25 1 v ws.length vals) (h2 : vals.length = ws.length) (h3 : ∀ i (h : i < ws.length), ∃ a c, vals[i]? = some (.slice a ws[i].length c) ∧ OwnI w base (.slice a ws[i].length c) ws[i]) (hw : OwnI w base (.slice a way.length c) way)
    (hrow : w'.ownsRow base 25 1 v' (ws.length + 1) (vals ++ [.slice a way.length c])) (hx : Chg (fun k => v.ownBlock = some k) w w') : RowsO w' base v' (ws ++ [way]) := by
  have hne : ∀ {u : Value} {n : Nat} {ys : List Value}, w.ownsRow base 3 1 u n ys → ∀ k, u.ownBlock = some k → ¬ v.ownBlock = some k := by
    intro u n ys hu k hk e
    obtain ⟨_, e1⟩ := own_typeO hu hk
    obtain ⟨_, e2⟩ := own_typeO h1 e
    rw [e1] at e2
    cases e2
  refine ⟨vals ++ [.slice a way.length c], by simpa using hrow, by simp [h2], fun i hi => ?_⟩
  by_cases hlt : i < ws.length
  · obtain ⟨a', c', h4, h5⟩ := h3 i hlt
    rw [List.getElem_append_left hlt, List.getElem?_append_left (by omega)]
    exact ⟨a', c', h4, own_chg h5 hx (hne h5)⟩
  · have : i = ws.length := by simp at hi; omega
    subst this
    refine ⟨a, c, ?_, ?_⟩
    · rw [List.getElem?_append_right (by omega)]
      simp [h2]
    · simp only [List.getElem_append_right (Nat.le_refl _), Nat.sub_self, List.getElem_cons_zero]
      exact own_chg hw hx (hne hw)
/-- The i-th of them. -/
theorem RowsO.at_ {w : World} {base : Nat} {v : Value} {ws : List (List Int)} (h : RowsO w base v ws) {i : Nat} (hi : i < ws.length) : ∃ b cap a c, v = .slice (some ⟨b, 0, none⟩) ws.length cap ∧ ws.length ≤ cap ∧ w.cell? ⟨b, i, none⟩ = some (.slice a ws[i].length c) ∧ OwnI w base (.slice a ws[i].length c) ws[i] := by
  obtain ⟨vals, h1, h2, h3⟩ := h
  obtain ⟨a, c, h4, h5⟩ := h3 i hi
  have hc := fun g (hg : v.ownBlock = some g) => World.ownsRow.cells (w := w) (g := g) h1 hg
  obtain ⟨-, ⟨-, e2⟩ | ⟨g, cap, cur, e1, -, -, hcap, -⟩⟩ := h1
  · omega
  · have := hc g (by rw [e1]; rfl) i _ h4
    rw [addr_add, Nat.zero_add] at this
    exact ⟨g, cap, a, c, e1, hcap, this, h5⟩
set_option maxHeartbeats 1000000 in
theorem out_last (B base : Nat) (v0 v1 cv : Value) (rows : List (List Int)) (w : World) (hB : Blk w B #[v0, v1, cv]) (hC : RowsO w base cv rows) (hn : 0 < rows.length) (hl : rows.length ≤ 1000) :
    Calls Try.prog 69 #[.pointer (some ⟨B, 0, none⟩)] w fun e w' => ∃ a c, e = .returned (.slice a (rows[rows.length - 1]'(by omega)).length c) ∧ OwnI w' base (.slice a (rows[rows.length - 1]'(by omega)).length c) (rows[rows.length - 1]'(by omega)) ∧ Ext w w' := by
  obtain ⟨b, cap, a, c, rfl, hcap, hcell, hown⟩ := hC.at_ (i := rows.length - 1) (by omega)
  obtain ⟨lr, hlr⟩ : ∃ y, rows[rows.length - 1]'(by omega) = y := ⟨_, rfl⟩
  rw [hlr] at hcell hown ⊢
  have HO := Lib.hid hown
  have hpos : (0 : Int) < (rows.length : Int) := by omega
  have hsub : (rows.length : Int) - 1 = ((rows.length - 1 : Nat) : Int) := by omega
  clear hlr hC hown
  go_enter Try.func69, Try.ntmps69
  have m2 : ∀ y : Later w, y.world.cell? ⟨B, 2, none⟩ = some (.slice (some ⟨b, 0, none⟩) rows.length cap) := fun y => (hB.ext y.ext).cell 2 rfl
  have m3 : ∀ y : Later w, y.world.cell? ⟨b, rows.length - 1, none⟩ = some (.slice a lr.length c) := fun y => y.ext.cell hcell
  have ml := hB.lt
  have mb := lt_of_cell hcell
  simp only at mb
  clear hB hcell
  go_upto_region 1 with fail
  refine wp_region_later (by kernel_rfl) (by kernel_rfl) ?_
  repeat (go_big_quiet_step (fail))
  refine wpQuiet_nil ?_
  rintro _ ⟨⟨w2, hx2⟩, rfl⟩
  go_wp2
  go_ret
  exact ⟨a, c, rfl, OwnI.ext HO.out hx2, hx2⟩
end Go.Proofs.Ytpifdeglhalefaa
