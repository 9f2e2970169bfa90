/-
  The statements' board, plain: it is valid; its beds are beds; a ring that is dead takes beds away.
-/
import Derived.Test.YtpifdeglhalefaaOan
import Derived.Test.YtpifdeglhalefaaOub
import Derived.Test.YtpifdeglhalefaaBoL
namespace Go.Proofs.Ytpifdeglhalefaa
open Go.RowKit
theorem rgA_list (f : Nat → Nat) : (List.range 4).map (rgA f) = [rgA f 0, rgA f 1, rgA f 2, rgA f 3] := rfl
theorem radA (j : Nat) (h : j < 11) : radB (j : Int) (-(j : Int)) [64, 159, 990, 1070, 1620, 1700] = true := by
  have : ∀ j < 11, radB ((j : Nat) : Int) (-(j : Int)) [64, 159, 990, 1070, 1620, 1700] = true := by decide +kernel
  exact this j h
theorem linesA : linesB (linA 20) = true := by decide +kernel
theorem numsA : numsTo numA = true := by decide +kernel
theorem facA (f : Nat → Nat) (k : Nat) : 0 ≤ (rgA f k).factor ∧ (rgA f k).factor ≤ 4 := by
  unfold rgA
  simp only
  omega
theorem errA (f : Nat → Nat) (wire : Nat) : errB (armB f wire) = 0 := by
  have hj : ((wire : Int) % 11) = ((wire % 11 : Nat) : Int) := by omega
  have h1 : longB (armB f wire) = false := by
    unfold longB armB
    rw [rgA_list, linA_len]
    simp [numA]
  have h2 : goodB (armB f wire) = true := by
    unfold goodB ringsB numsB armB
    rw [rgA_list]
    have hf := facA f
    have hr := radA (wire % 11) (by omega)
    simp only [Bool.and_eq_true]
    refine ⟨⟨rfl, ?_, ?_, ?_⟩, linesA, numsA, ?_⟩
    · exact ins_one.2 (by omega)
    · simp only [List.any_cons, List.any_nil, Bool.or_false, Bool.not_or, Bool.and_eq_true, Bool.not_not]
      exact ⟨ins_one.2 (hf 0), ins_one.2 (hf 1), ins_one.2 (hf 2), ins_one.2 (hf 3)⟩
    · rw [hj]
      exact hr
    · rw [linA_len]
      rfl
  unfold errB
  rw [h1, h2]
  rfl
theorem smallA (f : Nat → Nat) (wire : Nat) : SmallB (armB f wire) := by
  constructor
  · unfold armB; simp
  · unfold armB; simp only; rw [linA_len]; omega
  · unfold armB numA; simp
theorem goodA (f : Nat → Nat) (wire : Nat) : GoodB (armB f wire) := errB_good (smallA f wire) (errA f wire)
theorem pntA_ok {a b : Nat} : ptB (pntA a b) = true := by
  unfold ptB pntA
  refine ins_two.2 ⟨⟨?_, ?_⟩, ?_, ?_⟩ <;> simp only <;> omega
def bedA (f : Nat → Nat) (wire : Nat) (a b : Nat) : Int := bedB (armB f wire) (pntA a b)
theorem bedRA (f : Nat → Nat) (wire a b : Nat) : (bedR (armB f wire) (pntA a b)).1 = bedA f wire a b ∧ (bedR (armB f wire) (pntA a b)).2.2 = 0 := by
  unfold bedR bedA
  rw [errA, if_neg (by simp), if_pos pntA_ok]
  exact ⟨rfl, rfl⟩
end Go.Proofs.Ytpifdeglhalefaa
