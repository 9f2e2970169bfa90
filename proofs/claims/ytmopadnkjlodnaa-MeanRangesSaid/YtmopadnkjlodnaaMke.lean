/-
  Package mean: stands, visits that are thrown, goals: keys of maps.
-/
import Derived.Test.YtmopadnkjlodnaaMex
namespace Go.Proofs.Ytmopadnkjlodnaa
open Go.RowKit Go.BigFrame
structure Sd where
  left : Int
  inn : Bool
  deriving DecidableEq
structure Nw where
  left : Int
  inn : Bool
  tried : Int
  deriving DecidableEq
structure Gl where
  score : Int
  wins : Bool
  deriving DecidableEq
def Sd.agg (s : Sd) : Value := .agg #[.int .i64 s.left, .bool s.inn]
def Nw.agg (s : Nw) : Value := .agg #[.int .i64 s.left, .bool s.inn, .int .i64 s.tried]
def Gl.agg (s : Gl) : Value := .agg #[.int .i64 s.score, .bool s.wins]
theorem eqSd (d : Nat) (a b : Sd) (w : World) : (Op.equalIn (d + 2) 119 a.agg b.agg).run Try.prog w = .ok (decide (a = b)) w := by
  have u3 := Try.underlying3
  have a3 := Try.isAgg3
  have z3 := Try.sizeOf3
  have u4 := Try.underlying4
  have a4 := Try.isAgg4
  have z4 := Try.sizeOf4
  have hS : Try.prog.underlying 119 = some (.struct (Try.prog.fieldsOf 119)) := by kernel_rfl
  obtain ⟨al, ai⟩ := a
  obtain ⟨bl, bi⟩ := b
  unfold Sd.agg
  rw [run_equalIn_struct w (d + 1) 119 _ _ hS (by kernel_rfl)]
  simp only [Program.fieldsOf, Try.underlying119]
  go_simp
  by_cases h1 : al = bl <;> by_cases h2 : ai = bi <;> simp [h1, h2]
theorem eqGl (d : Nat) (a b : Gl) (w : World) : (Op.equalIn (d + 2) 121 a.agg b.agg).run Try.prog w = .ok (decide (a = b)) w := by
  have u3 := Try.underlying3
  have a3 := Try.isAgg3
  have z3 := Try.sizeOf3
  have u4 := Try.underlying4
  have a4 := Try.isAgg4
  have z4 := Try.sizeOf4
  have hS : Try.prog.underlying 121 = some (.struct (Try.prog.fieldsOf 121)) := by kernel_rfl
  obtain ⟨al, ai⟩ := a
  obtain ⟨bl, bi⟩ := b
  unfold Gl.agg
  rw [run_equalIn_struct w (d + 1) 121 _ _ hS (by kernel_rfl)]
  simp only [Program.fieldsOf, Try.underlying121]
  go_simp
  by_cases h1 : al = bl <;> by_cases h2 : ai = bi <;> simp [h1, h2]
theorem eqNw (d : Nat) (a b : Nw) (w : World) : (Op.equalIn (d + 3) 127 a.agg b.agg).run Try.prog w = .ok (decide (a = b)) w := by
  have u3 := Try.underlying3
  have a3 := Try.isAgg3
  have z3 := Try.sizeOf3
  have a9 := Try.isAgg119
  have z9 := Try.sizeOf119
  have hS : Try.prog.underlying 127 = some (.struct (Try.prog.fieldsOf 127)) := by kernel_rfl
  obtain ⟨al, ai, au⟩ := a
  obtain ⟨bl, bi, bu⟩ := b
  have e := fun W => eqSd d ⟨al, ai⟩ ⟨bl, bi⟩ W
  unfold Sd.agg at e
  unfold Nw.agg
  rw [run_equalIn_struct w (d + 2) 127 _ _ hS (by kernel_rfl)]
  simp only [Program.fieldsOf, Try.underlying127]
  go_simp
  by_cases h1 : al = bl <;> by_cases h2 : ai = bi <;> by_cases h3 : au = bu <;> simp [h1, h2, h3]
theorem chkSd (d : Nat) (em : Bool) (a : Sd) (w : World) : (Instr.checkKey em (d + 2) 119 a.agg).run Try.prog w = .ok () w := by
  have u3 := Try.underlying3
  have a3 := Try.isAgg3
  have z3 := Try.sizeOf3
  have u4 := Try.underlying4
  have a4 := Try.isAgg4
  have z4 := Try.sizeOf4
  unfold Sd.agg
  rw [Instr.checkKey]
  simp only [Sem.run_bind, run_underlying Try.underlying119, Result.andThen_ok]
  rw [← Array.forIn_toList]
  simp [Instr.checkKey, go_sem, run_underlying u3, run_underlying u4]
theorem chkGl (d : Nat) (em : Bool) (a : Gl) (w : World) : (Instr.checkKey em (d + 2) 121 a.agg).run Try.prog w = .ok () w := by
  have u3 := Try.underlying3
  have a3 := Try.isAgg3
  have z3 := Try.sizeOf3
  have u4 := Try.underlying4
  have a4 := Try.isAgg4
  have z4 := Try.sizeOf4
  unfold Gl.agg
  rw [Instr.checkKey]
  simp only [Sem.run_bind, run_underlying Try.underlying121, Result.andThen_ok]
  rw [← Array.forIn_toList]
  simp [Instr.checkKey, go_sem, run_underlying u3, run_underlying u4]
theorem chkNw (d : Nat) (em : Bool) (a : Nw) (w : World) : (Instr.checkKey em (d + 3) 127 a.agg).run Try.prog w = .ok () w := by
  have u3 := Try.underlying3
  have a3 := Try.isAgg3
  have z3 := Try.sizeOf3
  have a9 := Try.isAgg119
  have z9 := Try.sizeOf119
  obtain ⟨al, ai, au⟩ := a
  have e := fun W => chkSd d em ⟨al, ai⟩ W
  unfold Sd.agg at e
  simp only at e
  unfold Nw.agg
  rw [Instr.checkKey]
  simp only [Sem.run_bind, run_underlying Try.underlying127, Result.andThen_ok]
  rw [← Array.forIn_toList]
  simp [go_sem, e, a3, a9, z9]
  simp [Instr.checkKey, run_underlying u3]
theorem keyL_stand : KeyL Try.prog 119 Sd.agg (fun _ => True) := by
  refine ⟨fun k es w => run_findKey_eq w (by kernel_rfl) _ _, fun em k w => chkSd 9998 em k w, fun a b w _ => ?_, fun k => ?_⟩
  · simp only [Op.equal, Op.maxDepth]
    exact eqSd 9998 a b w
  · have key : ∀ n, Instr.sameBits (n + 1) k.agg k.agg = true := fun n => by simp [Sd.agg, Instr.sameBits]
    exact key 9999
theorem keyL_goal : KeyL Try.prog 121 Gl.agg (fun _ => True) := by
  refine ⟨fun k es w => run_findKey_eq w (by kernel_rfl) _ _, fun em k w => chkGl 9998 em k w, fun a b w _ => ?_, fun k => ?_⟩
  · simp only [Op.equal, Op.maxDepth]
    exact eqGl 9998 a b w
  · have key : ∀ n, Instr.sameBits (n + 1) k.agg k.agg = true := fun n => by simp [Gl.agg, Instr.sameBits]
    exact key 9999
theorem keyL_now : KeyL Try.prog 127 Nw.agg (fun _ => True) := by
  refine ⟨fun k es w => run_findKey_eq w (by kernel_rfl) _ _, fun em k w => chkNw 9997 em k w, fun a b w _ => ?_, fun k => ?_⟩
  · simp only [Op.equal, Op.maxDepth]
    exact eqNw 9997 a b w
  · have key : ∀ n, Instr.sameBits (n + 1) k.agg k.agg = true := fun n => by simp [Nw.agg, Instr.sameBits]
    exact key 9999
/-- Any element of a set. -/
inductive Yes
  | yes
def Yes.val (_ : Yes) : Value := .bool true
def mpK (k : Nat) : Value := .map (some k)
theorem under_found : Try.prog.underlying 154 = some (.map 119 159) := by kernel_rfl
theorem under_out : Try.prog.underlying 159 = some (.map 121 158) := by kernel_rfl
theorem under_level : Try.prog.underlying 179 = some (.map 127 4) := by kernel_rfl
theorem zero_out (w : World) : (zeroValue 159).run Try.prog w = .ok (.map none) w := by
  first | exact Try.zeroValue159 w | exact Try.zeroValue159 _
def noEx : Ex := ⟨0, 0, 0, 0, false⟩
theorem zero_ext (w : World) : (zeroValue 158).run Try.prog w = .ok noEx.agg w := by
  first | exact Try.zeroValue158 w | exact Try.zeroValue158 _
end Go.Proofs.Ytmopadnkjlodnaa
