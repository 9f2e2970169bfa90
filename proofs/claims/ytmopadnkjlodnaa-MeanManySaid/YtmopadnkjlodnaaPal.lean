/-
  All possible visits, as the reference lists them: plain, and in memory.
-/
import Derived.Test.YtmopadnkjlodnaaLxa
namespace Go.Proofs.Ytmopadnkjlodnaa
open Go.RowKit
/-- A possible visit: its darts, and how many were at a finish. -/
structure Vi where
  beds : List Int
  tried : Int
section
variable (gin gout : Int) (beds : List Int) (sl score : Int) (wins : Bool)
def leafF (left eff : Int) (fb : List Int) (tr : Int) : List Vi := if (if eff = 2 then 0 else sl - left) = score ∧ (eff == 1) = wins then [⟨fb, tr⟩] else []
def allF : Nat → Int → Bool → Int → List Int → Int → List Vi
  | 0, left, _, eff, fb, tr => leafF sl score wins left eff fb tr
  | d + 1, left, inn, eff, fb, tr => if eff = 0 then (0 :: beds).flatMap fun b => allF d (hitS gin gout left inn b).1 (hitS gin gout left inn b).2.1 (hitS gin gout left inn b).2.2 (fb ++ [b]) (tr + finI gin gout beds left inn) else leafF sl score wins left eff fb tr
end
theorem leafF_len (sl score : Int) (wins : Bool) (left eff : Int) (fb : List Int) (tr : Int) : (leafF sl score wins left eff fb tr).length ≤ 1 := by
  unfold leafF
  by_cases h : (if eff = 2 then 0 else sl - left) = score ∧ (eff == 1) = wins
  · rw [if_pos h]; exact Nat.le_refl _
  · rw [if_neg h]; exact Nat.zero_le _
theorem flat_len {α β : Type} {f : α → List β} {c : Nat} : ∀ (l : List α), (∀ x ∈ l, (f x).length ≤ c) → (l.flatMap f).length ≤ l.length * c
  | [], _ => by simp
  | x :: l, h => by
    have h1 := flat_len l (fun y hy => h y (by simp [hy]))
    have h2 := h x (by simp)
    simp only [List.flatMap_cons, List.length_append, List.length_cons, Nat.add_mul, Nat.one_mul]
    omega
theorem allF_len {gin gout : Int} {beds : List Int} {sl score : Int} {wins : Bool} (hn : beds.length ≤ 9) : ∀ (d : Nat) (left : Int) (inn : Bool) (eff : Int) (fb : List Int) (tr : Int), (allF gin gout beds sl score wins d left inn eff fb tr).length ≤ 10 ^ d
  | 0, _, _, _, _, _ => leafF_len _ _ _ _ _ _ _
  | d + 1, left, inn, eff, fb, tr => by
    unfold allF
    split
    · have h1 := flat_len (f := fun b => allF gin gout beds sl score wins d (hitS gin gout left inn b).1 (hitS gin gout left inn b).2.1 (hitS gin gout left inn b).2.2 (fb ++ [b]) (tr + finI gin gout beds left inn)) (0 :: beds) (fun x _ => allF_len hn d _ _ _ _ _)
      refine Nat.le_trans h1 ?_
      rw [Nat.pow_succ, Nat.mul_comm (10 ^ d)]
      exact Nat.mul_le_mul_right _ (by simp; omega)
    · refine Nat.le_trans (leafF_len _ _ _ _ _ _ _) ?_
      exact Nat.pos_of_ne_zero (by simp)
end Go.Proofs.Ytmopadnkjlodnaa
