/-
  A tale, plain: the spans of its scores hold what was thrown.
-/
import Derived.Test.YtmopadnkjlodnaaNtx
import Derived.Test.YtmopadnkjlodnaaMog
namespace Go.Proofs.Ytmopadnkjlodnaa
open Go.RowKit
theorem leaf_is {sl score : Int} {wins : Bool} {left eff : Int} {fb : List Int} {tr : Int} {v : Vi} (h : v ∈ leafF sl score wins left eff fb tr) : v = ⟨fb, tr⟩ ∧ (eff == 1) = wins := by
  unfold leafF at h
  by_cases hc : (if eff = 2 then 0 else sl - left) = score ∧ (eff == 1) = wins
  · rw [if_pos hc] at h; exact ⟨List.mem_singleton.1 h, hc.2⟩
  · rw [if_neg hc] at h; cases h
theorem leaf_bnd {sl score : Int} {wins : Bool} {left eff : Int} {fb : List Int} {tr : Int} {v : Vi} (r : Nat) (h : v ∈ leafF sl score wins left eff fb tr) : fb.length ≤ v.beds.length ∧ v.beds.length ≤ fb.length + r ∧ tr ≤ v.tried ∧ v.tried - tr ≤ (v.beds.length : Int) - fb.length ∧ (wins = true → eff = 1 ∨ tr + 1 ≤ v.tried) := by
  obtain ⟨rfl, h2⟩ := leaf_is h
  refine ⟨Nat.le_refl _, Nat.le_add_right _ _, Int.le_refl _, by dsimp only; omega, fun hw => .inl ?_⟩
  rw [hw] at h2
  simpa using h2
theorem allF_bnd {gin gout : Int} {beds : List Int} {sl score : Int} {wins : Bool} : ∀ (r : Nat) (left : Int) (inn : Bool) (eff : Int) (fb : List Int) (tr : Int) (v : Vi), v ∈ allF gin gout beds sl score wins r left inn eff fb tr → fb.length ≤ v.beds.length ∧ v.beds.length ≤ fb.length + r ∧ tr ≤ v.tried ∧ v.tried - tr ≤ (v.beds.length : Int) - fb.length ∧ (wins = true → eff = 1 ∨ tr + 1 ≤ v.tried)
  | 0, left, inn, eff, fb, tr, v, h => leaf_bnd 0 h
  | r + 1, left, inn, eff, fb, tr, v, h => by
    unfold allF at h
    split at h
    · obtain ⟨b, hb, h1⟩ := List.mem_flatMap.1 h
      obtain ⟨i1, i2, i3, i4, i5⟩ := allF_bnd r _ _ _ _ _ v h1
      have hf := finI_01 gin gout beds left inn
      rw [List.length_append, List.length_singleton] at i1 i2 i4
      refine ⟨by omega, by omega, by omega, by push_cast at i4; omega, fun hw => .inr ?_⟩
      rcases i5 hw with i6 | i6
      · have hb0 : b ≠ 0 := by
          rintro rfl
          have : (hitS gin gout left inn 0).2.2 = 0 := by unfold hitS; rw [if_pos (.inl rfl)]
          omega
        have : finI gin gout beds left inn = 1 := finI_hit (List.any_eq_true.2 ⟨b, by
          rcases List.mem_cons.1 hb with h2 | h2
          · exact absurd h2 hb0
          · exact h2, by rw [i6]; rfl⟩)
        omega
      · omega
    · exact leaf_bnd (r + 1) h
theorem allOf_bnd {gin gout : Int} {beds : List Int} {x : Sg} {v : Vi} (h : v ∈ allOf gin gout beds x) : (1 ≤ v.beds.length ∧ v.beds.length ≤ 3) ∧ 0 ≤ v.tried ∧ v.tried ≤ v.beds.length ∧ (x.g.wins = true → 1 ≤ v.tried) := by
  have h1 := allF_bnd 3 _ _ _ _ _ v h
  simp only [List.length_nil] at h1
  have h0 : 1 ≤ v.beds.length := by
    have h' := h
    unfold allOf allF at h'
    rw [if_pos rfl] at h'
    obtain ⟨b, -, h2⟩ := List.mem_flatMap.1 h'
    have h3 := allF_bnd 2 _ _ _ _ _ v h2
    simp only [List.nil_append, List.length_singleton] at h3
    exact h3.1
  refine ⟨⟨h0, by omega⟩, by omega, by omega, fun hw => ?_⟩
  rcases h1.2.2.2.2 hw with h2 | h2
  · omega
  · omega
/-- What a span of visits says. -/
theorem spn_has {gin gout : Int} {beds : List Int} {x : Sg} {v : Vi} (h : v ∈ allOf gin gout beds x) : ((spnF (allOf gin gout beds x)).dl ≤ (v.beds.length : Int) ∧ (v.beds.length : Int) ≤ (spnF (allOf gin gout beds x)).dh) ∧ ((spnF (allOf gin gout beds x)).tl ≤ v.tried ∧ v.tried ≤ (spnF (allOf gin gout beds x)).th) ∧
    (1 ≤ (spnF (allOf gin gout beds x)).dl ∧ (spnF (allOf gin gout beds x)).dh ≤ 3) ∧ (0 ≤ (spnF (allOf gin gout beds x)).tl ∧ (spnF (allOf gin gout beds x)).th ≤ (spnF (allOf gin gout beds x)).dh) ∧ (x.g.wins = true → 1 ≤ (spnF (allOf gin gout beds x)).tl) := by
  have hne : allOf gin gout beds x ≠ [] := by rintro e; rw [e] at h; cases h
  have he := exS_all gin gout beds x
  rw [if_neg hne] at he
  have hi := exS_some he
  have key : ∀ {p : Oc → Prop}, (∃ o ∈ outS gin gout beds x.s, o.g = x.g ∧ p o) → ∃ u ∈ allOf gin gout beds x, p (ocV x.g u) := by
    rintro p ⟨o, h1, h2, h3⟩
    obtain ⟨u, hu, rfl⟩ := (outS_all x o).1 ⟨h1, h2⟩
    exact ⟨u, hu, h3⟩
  have all : ∀ u ∈ allOf gin gout beds x, (spnF (allOf gin gout beds x)).dl ≤ (u.beds.length : Int) ∧ (u.beds.length : Int) ≤ (spnF (allOf gin gout beds x)).dh ∧ (spnF (allOf gin gout beds x)).tl ≤ u.tried ∧ u.tried ≤ (spnF (allOf gin gout beds x)).th := fun u hu => by
    obtain ⟨h1, h2⟩ := (outS_all x (ocV x.g u)).2 ⟨u, hu, rfl⟩
    exact hi.all _ h1 h2
  obtain ⟨u1, m1, e1⟩ := key hi.dl
  obtain ⟨u2, m2, e2⟩ := key hi.dh
  obtain ⟨u3, m3, e3⟩ := key hi.tl
  obtain ⟨u4, m4, e4⟩ := key hi.th
  have e1 : (u1.beds.length : Int) = _ := e1
  have e2 : (u2.beds.length : Int) = _ := e2
  have e3 : u3.tried = _ := e3
  have e4 : u4.tried = _ := e4
  have b1 := allOf_bnd m1
  have b2 := allOf_bnd m2
  have b3 := allOf_bnd m3
  have b4 := allOf_bnd m4
  have a4 := all u4 m4
  have av := all v h
  refine ⟨⟨av.1, av.2.1⟩, av.2.2, ⟨by omega, by omega⟩, ⟨by omega, by omega⟩, fun hw => ?_⟩
  have := b3.2.2.2 hw
  omega
theorem rvG_all {gin gout : Int} {beds : List Int} : ∀ (l : List Sg) (k : Nat), (∀ s ∈ l, allOf gin gout beds s ≠ []) → rvG gin gout beds l k = .inl (l.map (allOf gin gout beds))
  | [], _, _ => rfl
  | s :: l, k, h => by
    unfold rvG
    rw [if_neg (h s (by simp)), rvG_all l (k + 1) (fun t ht => h t (by simp [ht]))]
    rfl
/-- Each visit that was thrown is among those that its score can have been. -/
theorem step_in {start gin gout : Int} {bl : List Int} {vs : List (List Int)} {x : Exa} (hL : lawsB start gin gout bl = true) (h : rxG gin gout bl vs 0 (exa0 start) = .inl x) {k : Nat} (hk : k < vs.length) {e : Exa} {r : Rv} (hS : StepK start gin gout bl vs x k hk e r) : (⟨vs[k], r.tried⟩ : Vi) ∈ allOf gin gout bl (gAt start x.scores x.won k) := by
  obtain ⟨hrun, hend⟩ := rvE_run hS.run
  have hsp := rvF_spec (laws_cnt hL).2 vs[k] 0 ⟨e.left, e.inn, 0, 0⟩ r (.inl rfl) (by omega) hrun
  have hl3 : vs[k].length ≤ 3 := by have := hsp.2.2.1; omega
  have hst := step_st hL h k e (by omega) hS.pre
  have hlen : x.scores.length = vs.length := by
    obtain ⟨t, h1, h2⟩ := rxG_scores _ _ _ _ h
    rw [h1]
    show ([] ++ t).length = _
    rw [List.nil_append, h2]
  have hg : x.scores.getD k 0 = e.left - (rxU e vs[k].length r).left := by rw [List.getD_eq_getElem?_getD, hS.sk]; rfl
  have hw : (r.eff == 1) = (x.won && decide (k + 1 = x.scores.length)) := by
    rw [hlen]
    have hp := hS.post
    by_cases h1 : k + 1 = vs.length
    · rw [decide_eq_true h1, Bool.and_true]
      rw [h1, List.take_length, h] at hp
      injection hp with hp
      rw [hp, rxU_won]
    · rw [decide_eq_false h1, Bool.and_false]
      obtain ⟨e2, r2, hS2⟩ := step_k hL h (k + 1) (by omega)
      have h2 := hS2.pre
      rw [hp] at h2
      injection h2 with h2
      have h3 := hS2.won
      rw [← h2, rxU_won] at h3
      exact h3
  have key := thrown_in (gin := gin) (gout := gout) (bl := bl) (sl := e.left) (score := x.scores.getD k 0) (wins := x.won && decide (k + 1 = x.scores.length)) vs[k] 0 3 ⟨e.left, e.inn, 0, 0⟩ r [] hrun rfl (by
    rcases hend with h1 | h1
    · exact .inl (by omega)
    · exact .inr ⟨hl3, h1⟩) ⟨by
      rw [hg, rxU_left]
      split
      · rw [Int.sub_self]
      · rfl, hw⟩
  unfold allOf gAt
  rw [hst]
  exact key
/-- A leg that was thrown: its spans. -/
theorem vst_thrown {start gin gout : Int} {bl : List Int} {vs : List (List Int)} {x : Exa} (hL : lawsB start gin gout bl = true) (h : rxG gin gout bl vs 0 (exa0 start) = .inl x) (hv : 1 ≤ vs.length ∧ vs.length ≤ 100) : Leg.ok ⟨start, gin, gout, bl, x.scores, x.won⟩ = true ∧ x.scores.length = vs.length ∧ vstF ⟨start, gin, gout, bl, x.scores, x.won⟩ = ((goT start x.scores x.won x.scores.length).map (fun s => spnF (allOf gin gout bl s)), 0, 0) := by
  have hlen : x.scores.length = vs.length := by
    obtain ⟨t, h1, h2⟩ := rxG_scores _ _ _ _ h
    rw [h1]
    show ([] ++ t).length = _
    rw [List.nil_append, h2]
  have hne : ∀ s ∈ goT start x.scores x.won x.scores.length, allOf gin gout bl s ≠ [] := by
    intro s hs
    unfold goT at hs
    obtain ⟨k, hk, rfl⟩ := List.mem_map.1 hs
    rw [List.mem_range, hlen] at hk
    obtain ⟨e, r, hS⟩ := step_k hL h k hk
    have := step_in hL h hk hS
    intro e0
    rw [e0] at this
    cases this
  have hok : Leg.ok ⟨start, gin, gout, bl, x.scores, x.won⟩ = true := by
    unfold Leg.ok
    simp only [Bool.and_eq_true, Bool.not_eq_true', decide_eq_true_iff]
    refine ⟨hL, by omega, ?_, ?_⟩
    · rw [List.any_eq_false]
      intro y hy
      obtain ⟨k, hk, rfl⟩ := List.mem_iff_getElem.1 hy
      rw [hlen] at hk
      obtain ⟨e, r, hS⟩ := step_k hL h k hk
      have hs := hS.sk
      rw [List.getElem?_eq_getElem (by omega)] at hs
      injection hs with hs
      rw [hs]
      have hB := (laws_cnt hL).2
      have hin := rvF_in hB (L := e.left) (I := e.inn) vs[k] 0 ⟨e.left, e.inn, 0, 0⟩ r (rvE_run hS.run).1 (Int.le_refl _) (by simp) (.inl rfl) (.inl (by dsimp only; have := hS.st.1; have := leastS_pos gout; omega))
      rw [decide_eq_true_iff, rxU_left]
      split
      · omega
      · rename_i h2
        rcases hin with h3 | h3
        · exact absurd h3 h2
        · omega
    · cases hc : x.scores with
      | nil => rw [hc] at hlen; simp at hlen; omega
      | cons a b => simp
  refine ⟨hok, hlen, ?_⟩
  unfold vstF
  rw [if_pos hok]
  show visG gin gout bl (goT start x.scores x.won x.scores.length) [] = _
  rw [visG_rv]
  rw [rvG_all _ _ hne]
  simp
end Go.Proofs.Ytmopadnkjlodnaa
