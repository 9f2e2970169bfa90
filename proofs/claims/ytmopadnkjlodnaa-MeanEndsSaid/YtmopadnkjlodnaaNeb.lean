/-
  MeanEnds, plain: what is shown for an end is a leg with these scores that reaches the end.
-/
import Derived.Test.YtmopadnkjlodnaaNea
import Derived.Test.YtmopadnkjlodnaaLsp
import Derived.Test.YtmopadnkjlodnaaNtw
namespace Go.Proofs.Ytmopadnkjlodnaa
open Go.RowKit
/-- The best visit of a goal, and that it reaches the end of the span. -/
theorem bst_end {gin gout : Int} {bl : List Int} (hB : bedsB bl = true) {en : Int} (hen : 1 ≤ en ∧ en ≤ 4) {s : Sg} (hne : allOf gin gout bl s ≠ []) : ∃ b, bstF (numE en) (allOf gin gout bl s) = some b ∧ b ∈ allOf gin gout bl s ∧ EndV en (spnF (allOf gin gout bl s)) b.beds.length b.tried := by
  obtain ⟨b, h1, h2, h3, -⟩ := bst_first (numE en) (allOf gin gout bl s) (allF_sort (asc_beds bl hB) 3 _ _ _ _ _) hne
  refine ⟨b, h1, h2, ?_⟩
  obtain ⟨⟨v1, m1, e1⟩, ⟨v2, m2, e2⟩, ⟨v3, m3, e3⟩, ⟨v4, m4, e4⟩, hall⟩ := spn_is hne
  have hb := hall b h2
  have hn1 := h3 v1 m1
  have hn2 := h3 v2 m2
  have hn3 := h3 v3 m3
  have hn4 := h3 v4 m4
  refine ⟨fun h => ?_, fun h => ?_, fun h => ?_, fun h => ?_⟩
  · subst h; unfold numE at hn1; simp at hn1; omega
  · subst h; unfold numE at hn2; simp at hn2; omega
  · subst h; unfold numE at hn3; simp at hn3; omega
  · subst h; unfold numE at hn4; simp at hn4; omega
/-- What is shown of a leg that was thrown. -/
theorem ends_shown {bl : List Int} {d : Tld} (hd : d.ok bl) {en : Int} (hen : 1 ≤ en ∧ en ≤ 4) : ∃ (ws : List (List Int)) (x' : Exa), shwS (d.leg bl) en = (ws, 0, 0) ∧ ws.length = d.x.scores.length ∧ rxG d.gin d.gout bl ws 0 (exa0 d.start) = .inl x' ∧ x'.scores = d.x.scores ∧ x'.won = d.x.won ∧
    ∀ T0, TBnd 100000 T0 → ParE en T0 (legT 100 (d.leg bl) ((goT d.start d.x.scores d.x.won d.x.scores.length).map (fun s => spnF (allOf d.gin d.gout bl s))) T0 d.x.scores.length) x' := by
  obtain ⟨start, gin, gout, vs, x⟩ := d
  have hL : lawsB start gin gout bl = true := hd.law
  have hrun : rxG gin gout bl vs 0 (exa0 start) = .inl x := hd.run
  have hlv : 1 ≤ vs.length ∧ vs.length ≤ 15 := hd.len
  have hv : 1 ≤ vs.length ∧ vs.length ≤ 100 := by omega
  have hB := (laws_cnt hL).2
  obtain ⟨hok, hlen, -⟩ := vst_thrown hL hrun hv
  have hne : ∀ s ∈ goT start x.scores x.won x.scores.length, allOf gin gout bl s ≠ [] := by
    intro s hs
    unfold goT at hs
    obtain ⟨k, hk, rfl⟩ := List.mem_map.1 hs
    rw [List.mem_range, hlen] at hk
    obtain ⟨e, r, hS⟩ := step_k hL hrun k hk
    have := step_in hL hrun hk hS
    intro e0
    rw [e0] at this
    cases this
  have hsh := shw_rv hok hen
  rw [rvG_all _ 0 hne] at hsh
  dsimp only at hsh
  obtain ⟨wv, hwv⟩ : ∃ wv : List Vi, wv = (goT start x.scores x.won x.scores.length).map (fun s => (bstF (numE en) (allOf gin gout bl s)).getD ⟨[], 0⟩) := ⟨_, rfl⟩
  have hwl : wv.length = x.scores.length := by rw [hwv, List.length_map, goT_len]
  have hws : ((goT start x.scores x.won x.scores.length).map (allOf gin gout bl)).map (shoB en) = wv.map Vi.beds := by
    rw [hwv, List.map_map, List.map_map]
    apply List.map_congr_left
    intro s hs
    obtain ⟨b, h1, -⟩ := bst_end hB hen (hne s hs)
    show shoB en (allOf gin gout bl s) = ((bstF (numE en) (allOf gin gout bl s)).getD ⟨[], 0⟩).beds
    unfold shoB
    rw [h1]
    rfl
  have hk : ∀ (k : Nat) (hk : k < wv.length), wv[k] ∈ allOf gin gout bl (gAt start x.scores x.won k) ∧ EndV en (spnF (allOf gin gout bl (gAt start x.scores x.won k))) wv[k].beds.length wv[k].tried := by
    intro k hk
    have hkn : k < x.scores.length := by omega
    have hmem : gAt start x.scores x.won k ∈ goT start x.scores x.won x.scores.length := by
      unfold goT
      exact List.mem_map_of_mem (List.mem_range.2 hkn)
    obtain ⟨b, h1, h2, h3⟩ := bst_end hB hen (hne _ hmem)
    have e : wv[k] = b := by
      subst hwv
      simp only [List.getElem_map, goT, List.getElem_range]
      rw [h1]
      rfl
    rw [e]
    exact ⟨h2, h3⟩
  obtain ⟨x', m1, m2, m3, m4, m5⟩ := rx_members hL hwl (fun k h => (hk k h).1) wv.length (Nat.le_refl _)
  rw [List.take_length] at m1
  have hsc : x'.scores = x.scores := by rw [m3, List.take_of_length_le (by omega)]
  have hwn : x'.won = x.won := by
    rcases m4 with h | h
    · rw [h, decide_eq_true hwl, Bool.and_true]
    · omega
  have hwb : (wv.map Vi.beds).length = x.scores.length := by rw [List.length_map, hwl]
  refine ⟨wv.map Vi.beds, x', ?_, hwb, m1, hsc, hwn, fun T0 hT0 => ?_⟩
  · show shwS ⟨start, gin, gout, bl, x.scores, x.won⟩ en = _
    rw [hsh, hws]
  · have key := leg_par hL m1 (by rw [hwb]; omega) (most := 100) (Int.le_refl _) hT0 (en := en) (fun k hkk e r hS => by
      have hkw : k < wv.length := by rw [List.length_map] at hkk; exact hkk
      obtain ⟨h1, h2⟩ := hk k hkw
      have hst := step_st hL m1 k e (by omega) hS.pre
      rw [hsc] at hst
      obtain ⟨r2, g1, g2, -, -⟩ := vi_run h1 e hst
      have hg := hS.run
      rw [List.getElem_map, g1] at hg
      injection hg with hg
      rw [hsc, hwn, List.getElem_map, ← hg, g2]
      exact h2) (wv.map Vi.beds).length x' (Nat.le_refl _) (by rw [List.take_length]; exact m1)
    rw [hsc, hwn, hwb] at key
    exact key
end Go.Proofs.Ytmopadnkjlodnaa
