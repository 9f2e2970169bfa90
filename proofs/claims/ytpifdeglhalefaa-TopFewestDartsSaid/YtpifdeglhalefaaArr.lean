/-
  An array of 500 marks: made, stored and loaded whole.
-/
import Derived.Test.YtpifdeglhalefaaHld
import Derived.Test.YtpifdeglhalefaaSlicesI
import Derived.Deep.MidRow
namespace Go.Proofs.Ytpifdeglhalefaa
open Go.RowKit
theorem Blk.range {w : World} {b : Nat} {cs : Array Value} (h : Blk w b cs) : w.rangeAt b 0 cs.toList := fun j v hv => by
  rw [Nat.zero_add]; exact h.cell j (by simpa using hv)
theorem Blk.setCells {b : Nat} : ∀ (vs : List Value) (o : Nat) (w : World) (cs : Array Value), Blk w b cs → o + vs.length = cs.size → Blk (w.setCells b o vs) b (cs.toList.take o ++ vs).toArray
  | [], o, w, cs, h, hl => by
    have e : (cs.toList.take o ++ []).toArray = cs := by
      rw [List.append_nil, List.take_of_length_le (by simp at hl ⊢; omega)]
    rw [e]; exact h
  | v :: r, o, w, cs, h, hl => by
    have h1 := Blk.setCells r (o + 1) _ _ (h.set o v) (by simp at hl ⊢; omega)
    have e : ((cs.setIfInBounds o v).toList.take (o + 1) ++ r) = cs.toList.take o ++ v :: r := by
      simp at hl
      have : o < cs.toList.length := by simp; omega
      rw [Array.toList_setIfInBounds, List.take_succ_eq_append_getElem (by simp; omega), List.take_set_of_le (by omega), List.getElem_set_self, List.append_assoc]
      rfl
    rw [e] at h1
    exact h1
theorem chg_setCells {S : Nat → Prop} {b : Nat} (hb : S b) {a : World} : ∀ (vs : List Value) (o : Nat) (w : World), Chg S a w → Chg S a (w.setCells b o vs)
  | [], _, _, h => h
  | v :: r, o, _, h => chg_setCells hb r (o + 1) _ (h.setCell (.inr hb) v)
theorem markC_one (S : List Int) : ∀ v ∈ (markC S).toList, v.oneCell' = true := by
  intro v hv
  simp only [markC, List.mem_map] at hv
  obtain ⟨i, -, rfl⟩ := hv
  rfl
theorem seen_row : (Try.prog.underlying 110).map TypeDesc.isRow = some true := by kernel_rfl
theorem seen_size : (Try.prog.info? 110).map (·.size) = some 500 := by kernel_rfl
theorem seen_zero : Try.zeroCells110 = markC [] := by kernel_rfl
/-- The zeros that a new array is given. -/
theorem run_zero_seen (w : World) : (storeCells ⟨w.heap.size, 0, none⟩ Try.zeroCells110.toList).run Try.prog (w.alloc (.cells Try.zeroCells110 110)) = .ok () ((w.alloc (.cells Try.zeroCells110 110)).setCells w.heap.size 0 Try.zeroCells110.toList) := by
  rw [seen_zero]
  have h := Blk.new w (markC []) 110
  have := run_storeCells_cells (P := Try.prog) w.heap.size 0 (markC []).toList 0 (w.alloc (.cells (markC []) 110)) (fun j hj => by
    have hj : j < 500 := by simpa [markC_size] using hj
    rw [Nat.zero_add, h.cell _ (Array.getElem?_eq_getElem (by rw [markC_size]; omega))]; rfl) (fun j hj => h.frozen _) (markC_one [])
  simpa using this
theorem zero_seen (w : World) : Blk ((w.alloc (.cells Try.zeroCells110 110)).setCells w.heap.size 0 Try.zeroCells110.toList) w.heap.size (markC []) ∧ Ext w ((w.alloc (.cells Try.zeroCells110 110)).setCells w.heap.size 0 Try.zeroCells110.toList) := by
  rw [seen_zero]
  have h := Blk.new w (markC []) 110
  have h1 := Blk.setCells (markC []).toList 0 _ _ h (by simp)
  exact ⟨by simpa using h1, Chg.to_ext ((Ext.refl w).alloc _) (chg_setCells (S := (· = w.heap.size)) rfl _ _ _ (Chg.refl _ _)) (by rintro i rfl; exact Nat.le_refl _)⟩
theorem run_store_seen {w : World} {b : Nat} {old : Array Value} {S : List Int} (h : Blk w b old) (ho : old.size = 500) : (Instr.storeAt 110 (.pointer (some ⟨b, 0, none⟩)) (.agg (markC S))).run Try.prog w = .ok () (w.setCells b 0 (markC S).toList) :=
  run_storeAt_mid w b 0 110 (markC S) (fun j hj => by
    rw [markC_size] at hj
    rw [Nat.zero_add]
    exact ⟨by rw [h.cell j (Array.getElem?_eq_getElem (by omega))]; rfl, h.frozen j⟩) (by rw [seen_size, markC_size]) (by
    have := all_oneCell_toArray (markC_one S)
    simpa using this)
theorem run_load_seen {w : World} {b : Nat} {S : List Int} (h : Blk w b (markC S)) : (Instr.loadAt 110 (.pointer (some ⟨b, 0, none⟩))).run Try.prog w = .ok (.agg (markC S)) w := by
  have hr := seen_row
  cases hu : Try.prog.underlying 110 with
  | none => rw [hu] at hr; cases hr
  | some d =>
    rw [hu] at hr
    have := run_loadAt_mid (P := Try.prog) w b 0 110 (markC S).toList d h.range hu (by simpa using hr) (by rw [seen_size]; simp [markC_size])
    simpa using this
theorem seen_set {w : World} {b : Nat} {old : Array Value} {S : List Int} (h : Blk w b old) (ho : old.size = 500) : Blk (w.setCells b 0 (markC S).toList) b (markC S) ∧ Chg (fun k => k = b) w (w.setCells b 0 (markC S).toList) := by
  refine ⟨?_, chg_setCells (S := (· = b)) rfl _ _ _ (Chg.refl _ w)⟩
  have := Blk.setCells (markC S).toList 0 w old h (by simp [ho, markC_size])
  simpa using this
end Go.Proofs.Ytpifdeglhalefaa
