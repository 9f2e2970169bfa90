/-
  Plain: what Show answers is what the reference says.
-/
import Derived.Test.YtmopadnkjlodnaaPsh
namespace Go.Proofs.Ytmopadnkjlodnaa
open Go.RowKit
theorem isBed_pos {b : Int} (h : isBedB b = true) : 0 < b := by
  unfold isBedB at h
  simp only [Bool.or_eq_true, Bool.and_eq_true, beq_iff_eq] at h
  rcases h with (rfl | rfl) | ⟨h, -⟩
  · decide
  · decide
  · rw [ins_one] at h
    unfold fct at h
    rcases Int.lt_or_le 0 b with h0 | h0
    · exact h0
    · exfalso
      have h2 : b.tdiv 100 ≤ 0 := by
        rw [← Int.neg_neg b, Int.neg_tdiv]
        have := Int.tdiv_nonneg (a := -b) (b := 100) (by omega) (by decide)
        omega
      omega
theorem asc_beds : ∀ (l : List Int), bedsB l = true → (0 :: l).Pairwise (· < ·)
  | [], _ => by simp
  | [x], h => by
    have := isBed_pos (b := x) h
    simp [this]
  | x :: y :: l, h => by
    unfold bedsB at h
    simp only [Bool.and_eq_true, decide_eq_true_eq] at h
    have ih := asc_beds (y :: l) h.2
    have h0 := isBed_pos h.1.1
    rw [List.pairwise_cons] at ih ⊢
    obtain ⟨i1, i2⟩ := ih
    refine ⟨fun z hz => ?_, ?_⟩
    · rcases List.mem_cons.1 hz with rfl | hz
      · exact h0
      · exact i1 z hz
    · rw [List.pairwise_cons]
      refine ⟨fun z hz => ?_, i2⟩
      rcases List.mem_cons.1 hz with rfl | hz
      · exact h.1.2
      · exact Int.lt_trans h.1.2 ((List.pairwise_cons.1 i2).1 z hz)
theorem shw_rv {start gin gout : Int} {beds scores : List Int} {won : Bool} {en : Int} (hok : Leg.ok ⟨start, gin, gout, beds, scores, won⟩ = true) (hen : 1 ≤ en ∧ en ≤ 4) : shwS ⟨start, gin, gout, beds, scores, won⟩ en = match rvG gin gout beds (goT start scores won scores.length) 0 with
    | .inl ls => (ls.map (shoB en), 0, 0)
    | .inr n => ([], (n : Int), 7) := by
  have hv : visR start gin gout beds scores won = match rvG gin gout beds (goT start scores won scores.length) 0 with
    | .inl r => ([] ++ r.map spnF, 0, 0)
    | .inr n => ([], (n : Int), 7) := visG_rv gin gout beds (goT start scores won scores.length) []
  unfold shwS
  rw [if_neg (by rw [hok]; decide), if_neg (by omega)]
  dsimp only
  rw [hv]
  cases hr : rvG gin gout beds (goT start scores won scores.length) 0 with
  | inl ls =>
    dsimp only
    rw [if_pos rfl, List.nil_append, shw_fold (asc_beds _ (ok_parts hok).2.2.2.1) hen _ _ 0 ls [] hr rfl]
    rfl
  | inr n =>
    dsimp only
    rw [if_neg (by decide)]
theorem rvG_ne {gin gout : Int} {beds : List Int} : ∀ (l : List Sg) (k : Nat) (r : List (List Vi)), rvG gin gout beds l k = .inl r → ∀ x ∈ r, x ≠ []
  | [], _, r, h => by injection h with h; subst h; exact fun x hx => by cases hx
  | s :: l, k, r, h => by
    unfold rvG at h
    split at h
    · cases h
    · rename_i hne
      cases hr : rvG gin gout beds l (k + 1) with
      | inl r' =>
        rw [hr] at h
        injection h with h
        subst h
        intro x hx
        rcases List.mem_cons.1 hx with rfl | hx
        · exact hne
        · exact rvG_ne l (k + 1) r' hr x hx
      | inr n => rw [hr] at h; cases h
theorem allF_sub {gin gout : Int} {beds : List Int} {sl score : Int} {wins : Bool} : ∀ (r : Nat) (left : Int) (inn : Bool) (eff : Int) (fb : List Int) (tr : Int) (v : Vi), v ∈ allF gin gout beds sl score wins r left inn eff fb tr → ∀ b ∈ v.beds, b ∈ fb ∨ b ∈ 0 :: beds
  | 0, left, inn, eff, fb, tr, v, h, b, hb => by rw [leaf_beds h] at hb; exact .inl hb
  | r + 1, left, inn, eff, fb, tr, v, h, b, hb => by
    unfold allF at h
    split at h
    · obtain ⟨c, hc, h1⟩ := List.mem_flatMap.1 h
      rcases allF_sub r _ _ _ _ _ v h1 b hb with h2 | h2
      · rcases List.mem_append.1 h2 with h3 | h3
        · exact .inl h3
        · rw [List.mem_singleton.1 h3]; exact .inr hc
      · exact .inr h2
    · rw [leaf_beds h] at hb; exact .inl hb
theorem finI_one (gin gout : Int) (beds : List Int) (left : Int) (inn : Bool) : finI gin gout beds left inn ≤ 1 := by
  unfold finI
  split <;> decide
theorem leaf_tr {sl score : Int} {wins : Bool} {left eff : Int} {fb : List Int} {tr : Int} {v : Vi} (h : v ∈ leafF sl score wins left eff fb tr) : v.tried ≤ tr := by
  unfold leafF at h
  by_cases hc : (if eff = 2 then 0 else sl - left) = score ∧ (eff == 1) = wins
  · rw [if_pos hc] at h; rw [List.mem_singleton.1 h]; exact Int.le_refl _
  · rw [if_neg hc] at h; cases h
theorem allF_tr {gin gout : Int} {beds : List Int} {sl score : Int} {wins : Bool} : ∀ (r : Nat) (left : Int) (inn : Bool) (eff : Int) (fb : List Int) (tr : Int) (v : Vi), v ∈ allF gin gout beds sl score wins r left inn eff fb tr → v.tried ≤ tr + r
  | 0, left, inn, eff, fb, tr, v, h => by
    have := leaf_tr h
    omega
  | r + 1, left, inn, eff, fb, tr, v, h => by
    unfold allF at h
    split at h
    · obtain ⟨b, -, h1⟩ := List.mem_flatMap.1 h
      have := allF_tr r _ _ _ _ _ v h1
      have := finI_one gin gout beds left inn
      omega
    · have := leaf_tr h
      omega
theorem bst_mem (num : Vi → Int) : ∀ (l : List Vi) (o : Option Vi) (b : Vi), l.foldl (stpB num) o = some b → o = some b ∨ b ∈ l
  | [], o, b, h => .inl h
  | v :: l, o, b, h => by
    rcases bst_mem num l _ b h with h1 | h1
    · cases o with
      | none => injection h1 with h1; subst h1; exact .inr (by simp)
      | some c =>
        unfold stpB at h1
        dsimp only at h1
        split at h1
        · injection h1 with h1; subst h1; exact .inr (by simp)
        · exact .inl h1
    · exact .inr (by simp [h1])
theorem sho_all {gin gout : Int} {beds : List Int} (en : Int) (x : Sg) : (∀ b ∈ shoB en (allOf gin gout beds x), b ∈ 0 :: beds) ∧ (shoB en (allOf gin gout beds x)).length ≤ 3 := by
  unfold shoB
  cases h : bstF (numE en) (allOf gin gout beds x) with
  | none => exact ⟨fun b hb => absurd hb (List.not_mem_nil), Nat.zero_le _⟩
  | some v =>
    have hv : v ∈ allOf gin gout beds x := by
      rcases bst_mem _ _ _ _ h with h1 | h1
      · cases h1
      · exact h1
    refine ⟨fun b hb => ?_, (allOf_len hv).2⟩
    rcases allF_sub 3 _ _ _ _ _ v hv b hb with h1 | h1
    · cases h1
    · exact h1
end Go.Proofs.Ytmopadnkjlodnaa
