/-
  A leg's lists stay small. No walk here.
-/
import Derived.Test.YtocnglplhnhllaaJud
import Derived.Test.YtocnglplhnhllaaRfr
import Derived.Test.YtocnglplhnhllaaKep
namespace Go.Proofs.Ytocnglplhnhllaa
theorem winS_length (n : Nat) (f : Int → Option Int) : (winS n f).length ≤ n := by
  unfold winS
  exact Nat.le_trans (List.length_filter_le _ _) (by simp)
theorem fin_small {r : Rul} {g : Gm} (h : g.Small) (hn : r.counts.length ≤ 1000000) : (g.fin r).Small := by
  unfold Gm.fin
  split
  · exact h
  · exact ⟨h.1, h.2.1, h.2.2.1, Nat.le_trans (winS_length _ _) hn⟩
theorem step_small {r : Rul} {g : Gm} (h : g.Small) (hn : r.counts.length ≤ 1000000) (p : Int) (beds : List Int) : (g.step r p beds).1.Small := by
  unfold Gm.step
  split
  · exact h
  · split
    · exact h
    · refine fin_small ?_ hn
      obtain ⟨h1, h2, h3, h4⟩ := h
      exact ⟨by simpa [Gm.put] using h1, by simpa [Gm.put] using h2, by simpa [Gm.put] using h3, h4⟩
theorem zero_small : Gm.zero.Small := ⟨Nat.zero_le _, Nat.zero_le _, Nat.zero_le _, Nat.zero_le _⟩
theorem begin_small {r : Rul} (hn : r.counts.length ≤ 1000000) : (Gm.begin r).Small := ⟨by simpa [Gm.begin] using hn, by simpa [Gm.begin] using hn, by simpa [Gm.begin] using hn, Nat.zero_le _⟩
theorem playL_small {r : Rul} (hn : r.counts.length ≤ 1000000) : ∀ (l : List LV) (g : Gm) (i : Int), g.Small → (playL r g i l).1.Small
  | [], g, i, h => h
  | v :: l, g, i, h => by
    unfold playL
    split
    · exact zero_small
    · exact playL_small hn l _ _ (step_small h hn _ _)
theorem playS_small {r : Rul} {l : List LV} (hn : r.counts.length ≤ 1000000) : (playS r l).1.Small := by
  unfold playS
  split
  · exact zero_small
  · exact playL_small hn _ _ _ (begin_small hn)
theorem judL_small {r : Rul} (hn : r.counts.length ≤ 1000000) : ∀ (l : List LV) (g : Gm) (i : Int) (fs : List Flt), g.Small → (judL r g i l fs).1.Small
  | [], g, i, fs, h => h
  | v :: l, g, i, fs, h => by
    unfold judL
    split
    · exact judL_small hn l _ _ _ (step_small h hn _ _)
    · exact judL_small hn l _ _ _ (step_small h hn _ _)
theorem judS_small {r : Rul} {l : List LV} (hn : r.counts.length ≤ 1000000) : (judS r l).1.Small := by
  unfold judS
  split
  · exact zero_small
  · exact judL_small hn _ _ _ _ (begin_small hn)
theorem fltL_length (r : Rul) : ∀ (l : List LV) (g : Gm) (i : Int), (fltL r g i l).length ≤ l.length
  | [], g, i => Nat.le_refl _
  | v :: l, g, i => by
    unfold fltL
    split
    · simpa using fltL_length r l _ _
    · exact Nat.le_trans (fltL_length r l _ _) (Nat.le_succ _)
theorem judS_length (r : Rul) (l : List LV) : (judS r l).2.1.length ≤ l.length := by
  unfold judS
  split
  · exact Nat.zero_le _
  · unfold judE
    rw [judL_eq]
    simpa using fltL_length r l _ _
end Go.Proofs.Ytocnglplhnhllaa
