/-
  Plain: beds of a box and of its halves; marks.
-/
import Derived.Test.YtlkbbcfbnbnagaaBpA
import Derived.Test.YtlkbbcfbnbnagaaMdp
namespace Go.Proofs.Ytlkbbcfbnbnagaa
def markC (S : List Int) : Array Value := ((List.range 500).map fun (i : Nat) => Value.bool (S.contains (i : Int))).toArray
theorem markC_size (S : List Int) : (markC S).size = 500 := by unfold markC; simp
theorem markC_get (S : List Int) {i : Nat} (h : i < 500) : (markC S)[i]? = some (.bool (S.contains (i : Int))) := by
  unfold markC
  rw [List.getElem?_toArray, List.getElem?_map, List.getElem?_range h]
  rfl
theorem markC_set (S : List Int) {k : Nat} (_h : k < 500) : (markC S).setIfInBounds k (.bool true) = markC (S ++ [(k : Int)]) := by
  refine Array.ext_getElem? fun i => ?_
  rcases Nat.lt_or_ge i 500 with hi | hi
  · rw [markC_get _ hi]
    by_cases e : k = i
    · subst e
      rw [Array.getElem?_setIfInBounds_self_of_lt (by rw [markC_size]; exact hi)]
      simp
    · rw [Array.getElem?_setIfInBounds_ne e, markC_get _ hi]
      have : ¬ ((i : Int) = (k : Int)) := by omega
      simp [List.contains_eq_mem, this]
  · rw [Array.getElem?_eq_none (by rw [Array.size_setIfInBounds, markC_size]; exact hi), Array.getElem?_eq_none (by rw [markC_size]; exact hi)]
def cntB (S : List Int) (i : Nat) : Nat := ((List.range i).filter fun (j : Nat) => S.contains (j : Int)).length
theorem cntB_succ (S : List Int) (i : Nat) : cntB S (i + 1) = cntB S i + (if S.contains (i : Int) = true then 1 else 0) := by
  unfold cntB
  rw [List.range_succ, List.filter_append, List.length_append]
  congr 1
  rw [List.filter_cons, List.filter_nil]
  split <;> rfl
theorem setL_cnt (S : List Int) : (setL S).length = cntB S 500 := by unfold setL cntB; simp
theorem flt_at (p : Nat → Bool) (i : Nat) (hp : p i = true) : ∀ k, ((List.range (i + 1 + k)).filter p)[((List.range i).filter p).length]? = some i
  | 0 => by
    rw [Nat.add_zero, List.range_succ, List.filter_append, List.getElem?_append_right (Nat.le_refl _), Nat.sub_self]
    simp [hp]
  | k + 1 => by
    rw [← Nat.add_assoc, List.range_succ, List.filter_append]
    have h := flt_at p i hp k
    have hl := (List.getElem?_eq_some_iff.1 h).1
    rw [List.getElem?_append_left hl]
    exact h
theorem setL_at (S : List Int) {i : Nat} (h : i < 500) (hc : S.contains (i : Int) = true) : (setL S)[cntB S i]? = some (i : Int) := by
  unfold setL cntB
  rw [List.getElem?_map]
  have := flt_at (fun (j : Nat) => S.contains (j : Int)) i hc (500 - (i + 1))
  rw [show i + 1 + (500 - (i + 1)) = 500 by omega] at this
  rw [this]; rfl
theorem cntB_le (S : List Int) : ∀ (i k : Nat), cntB S i ≤ cntB S (i + k)
  | _, 0 => Nat.le_refl _
  | i, k + 1 => by
    rw [← Nat.add_assoc, cntB_succ]
    have := cntB_le S i k
    omega
theorem cntB_small (S : List Int) (i : Nat) : cntB S i ≤ i := by
  unfold cntB
  have := List.length_filter_le (fun (j : Nat) => S.contains (j : Int)) (List.range i)
  rwa [List.length_range] at this
theorem setL_lt (S : List Int) {i : Nat} (h : i < 500) (hc : S.contains (i : Int) = true) : ∃ hb : cntB S i < (setL S).length, (setL S)[cntB S i] = (i : Int) :=
  List.getElem?_eq_some_iff.1 (setL_at S h hc)
theorem setL_congr {S T : List Int} (h : ∀ j : Int, 0 ≤ j ∧ j < 500 → (j ∈ S ↔ j ∈ T)) : setL S = setL T := by
  unfold setL
  congr 1
  refine List.filter_congr fun j hj => ?_
  have hj := List.mem_range.1 hj
  rw [Bool.eq_iff_iff, List.contains_iff_mem, List.contains_iff_mem]
  exact h j (by omega)
theorem ptsL_mem (x : Bx) (p : Pt) : p ∈ ptsL x ↔ (x.x0 ≤ p.x ∧ p.x ≤ x.x1) ∧ x.y0 ≤ p.y ∧ p.y ≤ x.y1 := by
  unfold ptsL ptsTo colL
  simp only [List.mem_flatMap, List.mem_map, List.mem_range]
  constructor
  · rintro ⟨i, hi, j, hj, rfl⟩
    simp only
    omega
  · rintro ⟨⟨h1, h2⟩, h3, h4⟩
    refine ⟨(p.x - x.x0).toNat, by omega, (p.y - x.y0).toNat, by omega, ?_⟩
    obtain ⟨px, py⟩ := p
    simp only at h1 h3 ⊢
    rw [show x.x0 + ((px - x.x0).toNat : Int) = px by omega, show x.y0 + ((py - x.y0).toNat : Int) = py by omega]
/-- The marks of both halves are those of the box. -/
theorem half_marks (b : Brd) (x0 m x1 y0 y1 : Int) (h : x0 ≤ m ∧ m < x1) :
    setL ((ptsL ⟨x0, x1, y0, y1⟩).map (bedB b)) = setL (setL ((ptsL ⟨x0, m, y0, y1⟩).map (bedB b)) ++ setL ((ptsL ⟨m + 1, x1, y0, y1⟩).map (bedB b))) := by
  refine setL_congr fun j hj => ?_
  rw [List.mem_append, setL_mem, setL_mem]
  simp only [List.mem_map, ptsL_mem]
  constructor
  · rintro ⟨p, ⟨h1, h2⟩, rfl⟩
    rcases Int.lt_or_le m p.x with hp | hp
    · exact .inr ⟨hj, p, ⟨by omega, h2⟩, rfl⟩
    · exact .inl ⟨hj, p, ⟨by omega, h2⟩, rfl⟩
  · rintro (⟨-, p, ⟨h1, h2⟩, rfl⟩ | ⟨-, p, ⟨h1, h2⟩, rfl⟩)
    · exact ⟨p, ⟨by omega, h2⟩, rfl⟩
    · exact ⟨p, ⟨by omega, h2⟩, rfl⟩
theorem beds_in {b : Brd} (hg : GoodB b) {x : Bx} {p : Pt} (hp : p ∈ ptsL x) : bedB b p ∈ setL ((ptsL x).map (bedB b)) :=
  (setL_mem _ _).2 ⟨bedB_small hg p, List.mem_map.2 ⟨p, hp, rfl⟩⟩
theorem beds_ok {b : Brd} {x : Bx} (he : errB b = 0) (hx : boxB x = true) (hn : boxN x ≤ 2500) : bedsR b x = (setL ((ptsL x).map (bedB b)), 0) := by
  unfold bedsR
  rw [if_neg (by simp [he]), if_pos hx, if_neg (by omega)]
theorem contains_take {l : List Int} (y : Int) {k : Nat} (h : k < l.length) : (l.take (k + 1)).contains y = ((l.take k).contains y || l[k] == y) := by
  rw [List.take_succ_eq_append_getElem h, Bool.eq_iff_iff, Bool.or_eq_true, List.contains_iff_mem, List.contains_iff_mem, beq_iff_eq, List.mem_append, List.mem_singleton]
  exact ⟨fun h => h.imp id Eq.symm, fun h => h.imp id Eq.symm⟩
end Go.Proofs.Ytlkbbcfbnbnagaa
