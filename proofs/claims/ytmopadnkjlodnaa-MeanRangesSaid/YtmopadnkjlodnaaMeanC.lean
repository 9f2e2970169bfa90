/-
  Package mean: Check.
-/
import Derived.Test.YtmopadnkjlodnaaMeanB
namespace Go.Proofs.Ytmopadnkjlodnaa
open Go.RowKit

/-- A leg of the player whose darts are not known: its laws, its beds, the scores of its visits, and whether it was won. -/
structure Leg where
  start : Int
  gin : Int
  gout : Int
  beds : List Int
  scores : List Int
  won : Bool
/-- A leg as Go's value, in a world. -/
structure LegAt (w : World) (l : Leg) (v : Value) : Prop where
  val : ∃ ab cb as' cs, v = .agg #[.int .i64 l.start, .int .i64 l.gin, .int .i64 l.gout, .slice ab l.beds.length cb, .slice as' l.scores.length cs, .bool l.won] ∧ CellsAt w .i64 ab l.beds ∧ CellsAt w .i64 as' l.scores
  nb : l.beds.length ≤ 9223372036854775807
  ns : l.scores.length ≤ 9223372036854775807
  wb : ∀ b ∈ l.beds, I64 b
  ws : ∀ b ∈ l.scores, I64 b
  wst : I64 l.start
theorem LegAt.ext {w w' : World} {l : Leg} {v : Value} (h : LegAt w l v) (hx : Ext w w') : LegAt w' l v := by
  obtain ⟨⟨ab, cb, as', cs, e, h1, h2⟩, r1, r2, r3, r4, r5⟩ := h
  exact ⟨⟨ab, cb, as', cs, e, h1.ext hx, h2.ext hx⟩, r1, r2, r3, r4, r5⟩
/-- Whether a leg is valid. -/
def Leg.ok (l : Leg) : Bool := lawsB l.start l.gin l.gout l.beds && (decide (l.scores.length ≤ 100) && (!l.scores.any (fun n => decide (n < 0)) && !(l.won && l.scores.isEmpty)))

/-- The error of a leg. -/
def Leg.err (l : Leg) : Int := if l.ok then 0 else 2
theorem Leg.err_ok {l : Leg} (h : l.ok = true) : l.err = 0 := by simp [Leg.err, h]
theorem Leg.err_bad {l : Leg} (h : l.ok = false) : l.err = 2 := by simp [Leg.err, h]
theorem mean_check1 (n : Int) (w : World) : Calls Try.prog 49 #[.int .i64 n] w fun e w' => e = .returned (.bool (decide (n < 0))) ∧ Ext w w' := by
  go_enter Try.func49, Try.ntmps49
  go_wp2
  all_goals (go_ret; exact ⟨ret_bool (by simp [*]), Ext.refl w⟩)
theorem enters_check1 : Enters Try.prog 49 := enters_of Try.func49 (by kernel_rfl) rfl
set_option maxHeartbeats 1000000 in
theorem mean_Check (l : Leg) (v : Value) (w : World) (h : LegAt w l v) :
    Calls Try.prog 16 #[v] w fun e w' => e = .returned (.int .i64 l.err) ∧ Ext w w' := by
  obtain ⟨⟨ab, cb, as', cs, rfl, h1, h2⟩, r1, r2, r3, r4, r5⟩ := h
  obtain ⟨start, gin, gout, beds, scores, won⟩ := l
  dsimp only at *
  go_enter Try.func16, Try.ntmps16
  go_wp2_with fail
  refine (mean_isValid start gin gout beds ab cb _ (by exact h1.ext ((Ext.refl w).alloc _)) r1 r3).mono ?_
  rintro e w1 ⟨rfl, hx1⟩
  obtain ⟨hc1, hf1⟩ := hx1.reads
  have hx : Ext w w1 := ((Ext.refl w).alloc _).trans hx1
  cases hv : lawsB start gin gout beds
  · go_wp2
    go_ret
    exact ⟨ret_int (Leg.err_bad (by simp [Leg.ok, hv])).symm, hx⟩
  by_cases hn : scores.length ≤ 100
  · go_wp2_with fail
    refine (containsFunc_i 49 #[] enters_check1 (fun n => decide (n < 0)) scores as' cs _ (by exact h2.ext hx) r2 (by exact fun x _ w1 _ => mean_check1 x w1)).mono ?_
    rintro e w2 ⟨rfl, hx2⟩
    obtain ⟨hc2, hf2⟩ := (hx1.trans hx2).reads
    clear hc1 hf1
    cases ha : scores.any (fun n => decide (n < 0))
    · cases won
      · go_wp2
        go_ret
        exact ⟨ret_int (Leg.err_ok (by simp [Leg.ok, hv, hn, ha])).symm, hx.trans hx2⟩
      · cases h0 : ((scores.length : Int) == 0)
        · have hs : scores.isEmpty = false := by cases scores <;> simp_all
          go_wp2
          go_ret
          exact ⟨ret_int (Leg.err_ok (by simp [Leg.ok, hv, hn, ha, hs])).symm, hx.trans hx2⟩
        · have hs : scores.isEmpty = true := by cases scores with
            | nil => rfl
            | cons s l => simp at h0; omega
          go_wp2
          go_ret
          exact ⟨ret_int (Leg.err_bad (by simp [Leg.ok, hs])).symm, hx.trans hx2⟩
    · go_wp2
      go_ret
      exact ⟨ret_int (Leg.err_bad (by simp [Leg.ok, hv, ha])).symm, hx.trans hx2⟩
  · go_wp2
    go_ret
    exact ⟨ret_int (Leg.err_bad (by simp [Leg.ok, hv, hn])).symm, hx⟩
end Go.Proofs.Ytmopadnkjlodnaa
