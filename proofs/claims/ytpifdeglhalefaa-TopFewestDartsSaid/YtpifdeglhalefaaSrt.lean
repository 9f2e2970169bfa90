/-
  slices.Sort at a slice of one's own.
-/
import Derived.Test.YtpifdeglhalefaaTryShelf
import Derived.Test.YtpifdeglhalefaaSen
namespace Go.Proofs.Ytpifdeglhalefaa
open Go.RowKit Go.Sort
def sorted (xs : List Int) : List Int := xs.mergeSort fun x y => decide (x ≤ y)
theorem sort_own {w : World} {base : Nat} {v : Value} {xs : List Int} (h : OwnI w base v xs) (hs : xs.length ≤ 1000000000000) :
    Calls Try.prog 111 #[v] w fun e w' => e = .returned (.tuple #[]) ∧ OwnI w' base v (sorted xs) ∧ Chg (fun k => v.ownBlock = some k) w w' := by
  have hperm : (sorted xs).length = xs.length := List.length_mergeSort xs
  obtain ⟨h1, ⟨rfl, hn⟩ | ⟨g, cap, cur, rfl, hb, hg, hnc, hcm, hsz, htk⟩⟩ := h
  · have : xs = [] := List.length_eq_zero_iff.1 hn
    subst this
    refine (Try.slices_Sort_int_none none 0 w).mono ?_
    rintro e w' ⟨rfl, rfl⟩
    refine ⟨rfl, ?_, Chg.refl _ _⟩
    rw [show sorted [] = [] by simp [sorted]]
    exact OwnI.nil _ _
  · have hlt : g < w.heap.size := (Array.getElem?_eq_some_iff.1 hg).1
    refine (Try.slices_Sort_int g 0 cap xs w ?_ hlt (by omega)).mono ?_
    · intro j hj
      simp at hj
      have hc := World.ownsRow.cells (w := w) (g := g) (⟨h1, .inr ⟨g, cap, cur, rfl, hb, hg, hnc, hcm, hsz, htk⟩⟩ : w.ownsRow base 3 1 (.slice (some ⟨g, 0, none⟩) xs.length cap) xs.length (xs.map (Value.int .i64))) rfl j (.int .i64 xs[j]) (by simp [hj])
      have hadd : (⟨g, 0, none⟩ : Addr).add j = ⟨g, 0 + j, none⟩ := by unfold Addr.add; split <;> simp_all
      rw [hadd] at hc
      refine ⟨by rw [hc]; simp [hj], ?_⟩
      simp [World.frozen?, hg]
    · rintro e w' ⟨rfl, n, os, rfl⟩
      have hsort : (xs.mergeSort fun x y => decide (x ≤ y)) = sorted xs := rfl
      rw [hsort]
      have hg' : (grow (putRow (Value.int .i64) (Sort.ahead w n) g 0 (sorted xs).toArray) os).heap[g]? = some (.cells (putCells (Value.int .i64) 0 (sorted xs).toArray cur) 3 (0, 0)) := by
        have hge : w.heap[g] = _ := (Array.getElem?_eq_some_iff.1 hg).2
        simp [grow, putRow, mapBlock, Sort.ahead, Array.getElem?_append, hlt, Array.getElem_modify, hge, onCells]
      refine ⟨rfl, ⟨by simp, .inr ⟨g, cap, _, by rw [hperm], hb, hg', by rw [hperm]; exact hnc, hcm, by simp [putCells, hsz], ?_⟩⟩, ⟨rfl, rfl, rfl, by simp [grow, putRow, mapBlock, Sort.ahead], fun k hk hne => ?_⟩⟩
      · apply List.ext_getElem?
        intro j
        by_cases hj : j < xs.length
        · have hj' : j < (sorted xs).length := by omega
          have hjc : j < cur.size := by omega
          simp [putCells, hj', hjc]
        · rw [List.getElem?_eq_none (by simp [putCells, hperm]; omega), List.getElem?_eq_none (by simp [hperm]; omega)]
      · have hkg : g ≠ k := fun e => hne (by rw [e]; rfl)
        simp [grow, putRow, mapBlock, Sort.ahead, Array.getElem?_append, hk, Array.getElem_modify, hkg]
theorem mem_sorted {xs : List Int} {x : Int} : x ∈ sorted xs ↔ x ∈ xs := (List.mergeSort_perm xs _).mem_iff
theorem sorted_lt {xs : List Int} (h : xs.Nodup) : (sorted xs).Pairwise (· < ·) := by
  have h1 := List.pairwise_mergeSort (le := fun x y : Int => decide (x ≤ y)) (fun a b c h1 h2 => by simp at *; omega) (fun a b => by simp; omega) xs
  have h2 : (sorted xs).Pairwise (· ≠ ·) := (List.mergeSort_perm xs _).nodup_iff.2 h
  exact (h1.and h2).imp fun {a b} ⟨h3, h4⟩ => by simp at h3; omega
end Go.Proofs.Ytpifdeglhalefaa
