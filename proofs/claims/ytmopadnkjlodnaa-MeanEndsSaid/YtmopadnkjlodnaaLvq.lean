/-
  Plain: what lists of possible visits hold; the parts of a valid leg.
-/
import Derived.Test.YtmopadnkjlodnaaPam
import Derived.Test.YtmopadnkjlodnaaRle
namespace Go.Proofs.Ytmopadnkjlodnaa
open Go.RowKit
theorem leaf_beds {sl score : Int} {wins : Bool} {left eff : Int} {fb : List Int} {tr : Int} {v : Vi} (h : v ∈ leafF sl score wins left eff fb tr) : v.beds = fb := by
  unfold leafF at h
  by_cases hc : (if eff = 2 then 0 else sl - left) = score ∧ (eff == 1) = wins
  · rw [if_pos hc] at h; rw [List.mem_singleton.1 h]
  · rw [if_neg hc] at h; cases h
theorem allF_beds {gin gout : Int} {beds : List Int} {sl score : Int} {wins : Bool} : ∀ (d : Nat) (left : Int) (inn : Bool) (eff : Int) (fb : List Int) (tr : Int) (v : Vi), v ∈ allF gin gout beds sl score wins d left inn eff fb tr → v.beds.length ≤ fb.length + d
  | 0, _, _, _, _, _, _, h => by rw [leaf_beds h]; exact Nat.le_refl _
  | d + 1, left, inn, eff, fb, tr, v, h => by
    unfold allF at h
    split at h
    · obtain ⟨b, -, h1⟩ := List.mem_flatMap.1 h
      have := allF_beds d _ _ _ _ _ v h1
      rw [List.length_append, List.length_singleton] at this
      omega
    · rw [leaf_beds h]; omega
theorem rvG_inl {gin gout : Int} {beds : List Int} : ∀ (l : List Sg) (k : Nat) (r : List (List Vi)), rvG gin gout beds l k = .inl r → r.length = l.length ∧ ∀ x ∈ r, ∃ s ∈ l, x = allOf gin gout beds s
  | [], _, r, h => by injection h with h; subst h; exact ⟨rfl, fun x hx => by cases hx⟩
  | s :: l, k, r, h => by
    unfold rvG at h
    split at h
    · cases h
    · cases hr : rvG gin gout beds l (k + 1) with
      | inl r' =>
        rw [hr] at h
        injection h with h
        subst h
        obtain ⟨h1, h2⟩ := rvG_inl l (k + 1) r' hr
        refine ⟨by simp [h1], fun x hx => ?_⟩
        rcases List.mem_cons.1 hx with rfl | hx
        · exact ⟨s, by simp, rfl⟩
        · obtain ⟨t, ht, e⟩ := h2 x hx
          exact ⟨t, by simp [ht], e⟩
      | inr n => rw [hr] at h; cases h
theorem ok_parts {start gin gout : Int} {beds scores : List Int} {won : Bool} (h : Leg.ok ⟨start, gin, gout, beds, scores, won⟩ = true) : (0 ≤ gin ∧ gin ≤ 2) ∧ (0 ≤ gout ∧ gout ≤ 2) ∧ (0 ≤ start ∧ start ≤ 1001) ∧ bedsB beds = true ∧ beds.length ≤ 82 ∧ scores.length ≤ 100 ∧ ∀ x ∈ scores, 0 ≤ x := by
  unfold Leg.ok at h
  simp only [Bool.and_eq_true, Bool.not_eq_true', decide_eq_true_iff] at h
  obtain ⟨h1, h2, h3, -⟩ := h
  have h4 := laws_cnt h1
  have h5 := cntB_start h4.1
  rw [lawsB_eq] at h1
  simp only [Bool.and_eq_true] at h1
  have h6 := ins_one.1 h1.2.2
  refine ⟨h5.2.1, h5.2.2, ⟨by omega, h5.1.2⟩, h4.2, by omega, h2, fun x hx => ?_⟩
  have := List.any_eq_false.1 h3 x hx
  simpa using this
end Go.Proofs.Ytmopadnkjlodnaa
