/-
  Package mean: goals, newBoard.
-/
import Derived.Test.YtmopadnkjlodnaaMgo
namespace Go.Proofs.Ytmopadnkjlodnaa
open Go.RowKit
attribute [local go_sem] Oper.semAt_some run_makeMap_plain
set_option maxHeartbeats 4000000 in
theorem mean_goals (start gin gout : Int) (ba sa : Option Addr) (bn bc sn sc : Nat) (won : Bool) (w : World) :
    Calls Try.prog 57 #[.agg #[.int .i64 start, .int .i64 gin, .int .i64 gout, .slice ba bn bc, .slice sa sn sc, .bool won]] w fun e w' => ∃ B1, e = .returned (.func (.func 79) #[] #[.pointer (some ⟨B1, 0, none⟩)]) ∧ w.heap.size ≤ B1 ∧ Blk w' B1 #[.int .i64 start, .int .i64 gin, .int .i64 gout, .slice ba bn bc, .slice sa sn sc, .bool won] ∧ Ext w w' := by
  go_enter Try.func57, Try.ntmps57
  go_wp2
  refine bodyPost_ret (v := .func (.func 79) #[] #[.pointer (some ⟨w.heap.size, 0, none⟩)]) (by simp [results, Try.results57, go_sem]) rfl ⟨_, rfl, Nat.le_refl _, Blk.new _ _ _, (Ext.refl w).alloc _⟩
set_option maxHeartbeats 4000000 in
theorem mean_newBoard (start gin gout : Int) (ba : Option Addr) (bn bc : Nat) (w : World) :
    Calls Try.prog 50 #[.agg #[.int .i64 start, .int .i64 gin, .int .i64 gout, .slice ba bn bc]] w fun e w' => ∃ kb bf, e = .returned (.pointer (some ⟨kb, 0, none⟩)) ∧ w.heap.size ≤ kb ∧ w.heap.size ≤ bf ∧ Blk w' kb #[.int .i64 start, .int .i64 gin, .int .i64 gout, .slice ba bn bc, .map (some bf)] ∧ MapL Sd.agg mpK w' bf [] ∧ Ext w w' := by
  go_enter Try.func50, Try.ntmps50
  go_wp2
  refine bodyPost_ret (v := .pointer (some ⟨w.heap.size + 1 + 1, 0, none⟩)) (by simp [results, Try.results50, go_sem]) rfl ⟨_, w.heap.size + 1, rfl, by omega, by omega, Blk.at _ (by simp), ?_, (((Ext.refl w).alloc _).alloc _).alloc _⟩
  obtain ⟨o, ho⟩ : ∃ o, o = Obj.cells #[.int .i64 start, .int .i64 gin, .int .i64 gout, .slice ba bn bc] 101 := ⟨_, rfl⟩
  have h0 : MapL Sd.agg mpK ((w.alloc o).alloc (.map #[] 0)) (w.alloc o).heap.size ([] : List (Sd × Nat)) := MapL.made _
  have e : (w.alloc o).heap.size = w.heap.size + 1 := by simp
  rw [e, ho] at h0
  exact h0.ext ((Ext.refl _).alloc _)
end Go.Proofs.Ytmopadnkjlodnaa
