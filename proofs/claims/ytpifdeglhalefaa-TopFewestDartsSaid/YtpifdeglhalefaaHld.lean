/-
  Plain: marks of five hundred numbers.
-/
import Derived.Test.YtpifdeglhalefaaBase
namespace Go.Proofs.Ytpifdeglhalefaa
def markC (S : List Int) : Array Value := ((List.range 500).map fun (i : Nat) => Value.bool (S.contains (i : Int))).toArray
theorem markC_size (S : List Int) : (markC S).size = 500 := by unfold markC; simp
theorem markC_get (S : List Int) {i : Nat} (h : i < 500) : (markC S)[i]? = some (.bool (S.contains (i : Int))) := by
  unfold markC
  rw [List.getElem?_toArray, List.getElem?_map, List.getElem?_range h]
  rfl
theorem markC_set (S : List Int) {k : Nat} (_h : k < 500) : (markC S).setIfInBounds k (.bool true) = markC (S ++ [(k : Int)]) := by
  refine Array.ext_getElem? fun i => ?_
  rcases Nat.lt_or_ge i 500 with hi | hi
  · rw [markC_get _ hi]
    by_cases e : k = i
    · subst e
      rw [Array.getElem?_setIfInBounds_self_of_lt (by rw [markC_size]; exact hi)]
      simp
    · rw [Array.getElem?_setIfInBounds_ne e, markC_get _ hi]
      have : ¬ ((i : Int) = (k : Int)) := by omega
      simp [List.contains_eq_mem, this]
  · rw [Array.getElem?_eq_none (by rw [Array.size_setIfInBounds, markC_size]; exact hi), Array.getElem?_eq_none (by rw [markC_size]; exact hi)]
end Go.Proofs.Ytpifdeglhalefaa
