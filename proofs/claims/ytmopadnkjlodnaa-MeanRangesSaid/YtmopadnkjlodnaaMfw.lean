/-
  Plain: bounds of visits.
-/
import Derived.Test.YtmopadnkjlodnaaMfv
namespace Go.Proofs.Ytmopadnkjlodnaa
theorem bedB_bounds {x : Int} (h : isBedB x = true) : I64 x ∧ 0 ≤ wrt x ∧ wrt x ≤ 80 := by
  unfold isBedB at h
  simp only [Bool.or_eq_true, beq_iff_eq, Bool.and_eq_true] at h
  rcases h with (rfl | rfl) | ⟨h1, h2⟩
  · unfold I64; decide
  · unfold I64; decide
  · simp only [ins, out1, List.any_cons, List.any_nil, Bool.or_false, Bool.not_or, Bool.and_eq_true, Bool.not_eq_true', decide_eq_false_iff_not] at h1 h2
    refine ⟨?_, ?_⟩
    · unfold I64
      unfold fct at h1
      rcases Int.le_total 0 x with hx | hx
      · rw [Int.tdiv_eq_ediv_of_nonneg hx] at h1
        omega
      · have : x.tdiv 100 = -((-x) / 100) := by rw [← Int.tdiv_eq_ediv_of_nonneg (by omega), Int.neg_tdiv, Int.neg_neg]
        rw [this] at h1
        omega
    · unfold wrt
      have h3 : 0 ≤ fct x := by omega
      have h4 : 0 ≤ nmb x := by omega
      exact ⟨Int.mul_nonneg h3 h4, Int.le_trans (Int.mul_le_mul (by omega : fct x ≤ 4) (by omega : nmb x ≤ 20) h4 (by omega)) (by omega)⟩
theorem beds_bounds {beds : List Int} (h : bedsB beds = true) {x : Int} (hx : x = 0 ∨ x ∈ beds) : I64 x ∧ 0 ≤ wrt x ∧ wrt x ≤ 80 := by
  rcases hx with rfl | hx
  · unfold I64; decide
  · obtain ⟨i, hi, rfl⟩ := List.mem_iff_getElem.1 hx
    exact bedB_bounds (((bedsB_iff beds).1 h) i hi hi).1
theorem hit_bounds {gin gout left : Int} {inn : Bool} {x : Int} (hw : 0 ≤ wrt x) (hl : 0 ≤ left) : 0 ≤ (hitS gin gout left inn x).1 ∧ (hitS gin gout left inn x).1 ≤ left := by
  unfold hitS
  split
  · exact ⟨hl, Int.le_refl _⟩
  · split
    · exact ⟨Int.le_refl _, hl⟩
    · split
      · rename_i h
        show 0 ≤ left - wrt x ∧ left - wrt x ≤ left
        omega
      · exact ⟨hl, Int.le_refl _⟩
theorem lev_bounds {gin gout : Int} {beds : List Int} {s : Sd} (h : bedsB beds = true) (hs : 0 ≤ s.left) : ∀ k n, n ∈ levN gin gout beds s k → (0 ≤ n.left ∧ n.left ≤ s.left) ∧ 0 ≤ n.tried ∧ n.tried ≤ k
  | 0, n, hn => by
    unfold levN at hn
    rw [List.mem_singleton] at hn
    subst hn
    exact ⟨⟨hs, Int.le_refl _⟩, Int.le_refl _, Int.le_refl _⟩
  | k + 1, n, hn => by
    unfold levN at hn
    obtain ⟨m, hm, hn⟩ := List.mem_flatMap.1 hn
    obtain ⟨⟨h1, h2⟩, h3, h4⟩ := lev_bounds h hs k m hm
    unfold nxtN at hn
    obtain ⟨x, hx, hn⟩ := List.mem_flatMap.1 hn
    have hw := (beds_bounds h (List.mem_cons.1 hx)).2.1
    have hb := hit_bounds (gin := gin) (gout := gout) (inn := m.inn) hw h1
    have hf : 0 ≤ finI gin gout beds m.left m.inn ∧ finI gin gout beds m.left m.inn ≤ 1 := by unfold finI; split <;> decide
    unfold nxt1N at hn
    split at hn
    · cases hn
    · split at hn
      · cases hn
      · rw [List.mem_singleton] at hn
        subst hn
        unfold triN
        simp only
        omega
end Go.Proofs.Ytmopadnkjlodnaa
