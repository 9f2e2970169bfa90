/-
  A night of legs: its board, plain.
-/
import Derived.Test.YtmopadnkjlodnaaMeanD
namespace Go.Proofs.Ytmopadnkjlodnaa
open Go.RowKit
/-- The place of a byte's bed. -/
def jN (b : Nat) : Nat := if 1 + b / 3 % 21 = 21 then min (1 + b % 3) 2 * 26 + 25 else (1 + b % 3) * 26 + (1 + b / 3 % 21)
def okJ (j : Nat) : Bool := isBedB (100 * ((j / 26 : Nat) : Int) + ((j % 26 : Nat) : Int))
set_option maxRecDepth 100000 in
theorem jN_all : ((List.range 256).all fun b => decide (jN b < 130) && okJ (jN b)) = true := by decide +kernel
theorem jN_ok {b : Nat} (h : b < 256) : jN b < 130 ∧ okJ (jN b) = true := by
  have := List.all_eq_true.1 jN_all b (List.mem_range.2 h)
  simpa using this
/-- Which places are marked. -/
structure ThOk (th : List Bool) : Prop where
  len : th.length = 130
  top : th[72]? = some true
  ok : ∀ j : Nat, th[j]? = some true → okJ j = true
theorem ThOk.set {th : List Bool} (h : ThOk th) {j : Nat} (hj : okJ j = true) : ThOk (th.set j true) := by
  refine ⟨by rw [List.length_set]; exact h.len, ?_, fun i hi => ?_⟩
  · rw [List.getElem?_set]
    split
    · rename_i e
      subst e
      rw [if_pos (by rw [h.len]; decide)]
    · exact h.top
  · rw [List.getElem?_set] at hi
    split at hi
    · rename_i e; subst e; exact hj
    · exact h.ok i hi
def th0 : List Bool := (List.replicate 130 false).set 72 true
set_option maxRecDepth 100000 in
theorem th0_all : ((List.range 130).all fun j => th0[j]? != some true || okJ j) = true := by decide +kernel
theorem ThOk.start : ThOk th0 := by
  refine ⟨by simp [th0], by simp [th0], fun j hj => ?_⟩
  have hlt : j < 130 := by
    have := (List.getElem?_eq_some_iff.1 hj).1
    simpa [th0] using this
  have := List.all_eq_true.1 th0_all j (List.mem_range.2 hlt)
  rw [hj] at this
  simpa using this
/-- All numbers that are looked at, in order, and the marked ones. -/
def allN : List Int := (List.range 4).flatMap fun f => (List.range 25).map fun x => (100 * ((f + 1 : Nat) : Int) + ((x + 1 : Nat) : Int))
def PB (th : List Bool) (b : Int) : Bool := th.getD (b.toNat / 100 * 26 + b.toNat % 100) false
theorem allN_length : allN.length = 100 := by decide +kernel
theorem allN_all : ((List.range 4).all fun f => (List.range 25).all fun x => decide (allN[25 * f + x]? = some (100 * ((f + 1 : Nat) : Int) + ((x + 1 : Nat) : Int)))) = true := by decide +kernel
theorem allN_at {f x : Nat} (hf : f < 4) (hx : x < 25) : allN[25 * f + x]? = some (100 * ((f + 1 : Nat) : Int) + ((x + 1 : Nat) : Int)) := by
  have := List.all_eq_true.1 (List.all_eq_true.1 allN_all f (List.mem_range.2 hf)) x (List.mem_range.2 hx)
  simpa using this
/-- The marked numbers of the first n. -/
def mrkN (th : List Bool) (n : Nat) : List Int := (allN.take n).filter (PB th)
theorem mrkN_len (th : List Bool) (n : Nat) : (mrkN th n).length ≤ 100 := by
  unfold mrkN
  refine Nat.le_trans (List.length_filter_le _ _) ?_
  rw [List.length_take, allN_length]
  omega
theorem PB_at {th : List Bool} {f x : Nat} (hx : x < 25) : PB th (100 * ((f + 1 : Nat) : Int) + ((x + 1 : Nat) : Int)) = th.getD ((f + 1) * 26 + (x + 1)) false := by
  unfold PB
  have h : (100 * ((f + 1 : Nat) : Int) + ((x + 1 : Nat) : Int)).toNat = 100 * (f + 1) + (x + 1) := by omega
  rw [h, show (100 * (f + 1) + (x + 1)) / 100 = f + 1 from by omega, show (100 * (f + 1) + (x + 1)) % 100 = x + 1 from by omega]
theorem mrkN_succ {th : List Bool} {f x : Nat} (hf : f < 4) (hx : x < 25) : mrkN th (25 * f + x + 1) = if th.getD ((f + 1) * 26 + (x + 1)) false = true then mrkN th (25 * f + x) ++ [100 * ((f + 1 : Nat) : Int) + ((x + 1 : Nat) : Int)] else mrkN th (25 * f + x) := by
  unfold mrkN
  have h := allN_at hf hx
  obtain ⟨hlt, he⟩ := List.getElem?_eq_some_iff.1 h
  rw [List.take_succ_eq_append_getElem hlt, he, List.filter_append, ← PB_at (th := th) (f := f) hx]
  generalize 100 * ((f + 1 : Nat) : Int) + ((x + 1 : Nat) : Int) = y
  cases h : PB th y
  · rw [List.filter_cons_of_neg (by rw [h]; decide)]; simp
  · rw [List.filter_cons_of_pos h]; rfl
theorem mrkN_next {th : List Bool} {F X : Nat} (hF : 1 ≤ F ∧ F ≤ 4) (hX : 1 ≤ X ∧ X ≤ 25) : mrkN th (25 * (F - 1) + X) = if th.getD (F * 26 + X) false = true then mrkN th (25 * (F - 1) + (X - 1)) ++ [100 * (F : Int) + (X : Int)] else mrkN th (25 * (F - 1) + (X - 1)) := by
  have h := mrkN_succ (th := th) (f := F - 1) (x := X - 1) (by omega) (by omega)
  rw [show 25 * (F - 1) + (X - 1) + 1 = 25 * (F - 1) + X from by omega, show F - 1 + 1 = F from by omega, show X - 1 + 1 = X from by omega] at h
  exact h
theorem bedsB_of : ∀ (l : List Int), l.Pairwise (· < ·) → (∀ x ∈ l, isBedB x = true) → bedsB l = true
  | [], _, _ => rfl
  | [x], _, h => h x (by simp)
  | x :: y :: l, hp, h => by
    unfold bedsB
    rw [List.pairwise_cons] at hp
    rw [h x (by simp), decide_eq_true (hp.1 y (by simp)), bedsB_of (y :: l) hp.2 (fun z hz => h z (by simp [hz]))]
    rfl
theorem allN_pair : allN.Pairwise (· < ·) := by decide +kernel
theorem allN_count : (allN.filter isBedB).length = 82 := by decide +kernel
theorem allN_mem {b : Int} (h : b ∈ allN) : ∃ f x : Nat, f < 4 ∧ x < 25 ∧ b = 100 * ((f + 1 : Nat) : Int) + ((x + 1 : Nat) : Int) := by
  unfold allN at h
  obtain ⟨f, hf, h⟩ := List.mem_flatMap.1 h
  obtain ⟨x, hx, rfl⟩ := List.mem_map.1 h
  exact ⟨f, x, List.mem_range.1 hf, List.mem_range.1 hx, rfl⟩
theorem PB_bed {th : List Bool} (h : ThOk th) {b : Int} (hb : b ∈ allN) (hp : PB th b = true) : isBedB b = true := by
  obtain ⟨f, x, hf, hx, rfl⟩ := allN_mem hb
  rw [PB_at hx] at hp
  have h1 : th[(f + 1) * 26 + (x + 1)]? = some true := by
    rw [List.getD_eq_getElem?_getD] at hp
    cases hc : th[(f + 1) * 26 + (x + 1)]? with
    | none => rw [hc] at hp; cases hp
    | some c => rw [hc] at hp; simp only [Option.getD_some] at hp; rw [hp]
  have h2 := h.ok _ h1
  unfold okJ at h2
  rw [show ((f + 1) * 26 + (x + 1)) / 26 = f + 1 from by omega, show ((f + 1) * 26 + (x + 1)) % 26 = x + 1 from by omega] at h2
  exact h2
theorem mrkN_ok {th : List Bool} (h : ThOk th) : bedsB (mrkN th 100) = true ∧ 1 ≤ (mrkN th 100).length ∧ (mrkN th 100).length ≤ 82 := by
  have e : mrkN th 100 = allN.filter (PB th) := by unfold mrkN; rw [List.take_of_length_le (by rw [allN_length]; decide)]
  rw [e]
  refine ⟨bedsB_of _ (allN_pair.sublist List.filter_sublist) (fun x hx => ?_), ?_, ?_⟩
  · obtain ⟨h1, h2⟩ := List.mem_filter.1 hx
    exact PB_bed h h1 h2
  · have h1 : (220 : Int) ∈ allN := by decide +kernel
    have h2 : PB th 220 = true := by
      unfold PB
      show th.getD 72 false = true
      rw [List.getD_eq_getElem?_getD, h.top]; rfl
    exact List.length_pos_of_mem (List.mem_filter.2 ⟨h1, h2⟩)
  · rw [← allN_count, ← List.countP_eq_length_filter, ← List.countP_eq_length_filter]
    exact List.countP_mono_left (fun x hx hp => PB_bed h hx hp)
end Go.Proofs.Ytmopadnkjlodnaa
