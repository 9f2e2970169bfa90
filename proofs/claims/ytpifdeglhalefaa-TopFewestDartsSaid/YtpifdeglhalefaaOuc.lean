/-
  Package out: whether rules are valid; what is left behind a bed.
-/
import Derived.Test.YtpifdeglhalefaaOub
import Derived.Deep.DeepCutAuto
import Derived.Deep.CutBlock
import Derived.BigQuiet
namespace Go.Proofs.Ytpifdeglhalefaa
open Go.RowKit
/-- Whether a bed is not bust. -/
def aftB (g s x : Int) : Bool := if s - wrt x = 0 then opnO g x else if s - wrt x = 1 then g == 0 else decide (1 < s - wrt x)
/-- The beds that are not bust, each with what it leaves. -/
def thwO (g : Int) (beds : List Int) (s : Int) : List (Int × Int) := (beds.filter fun x => aftB g s x && decide (0 < s)).map fun x => (x, s - wrt x)
def sumL (before : List Int) (l : List (Int × Int)) (a : Int) : Int := l.foldl (fun a p => wrap64 (a + before.getD p.2.toNat 0)) a
/-- How many ways there are with one bed more. -/
def rowO (g : Int) (beds : List Int) (before : List Int) : List Int := (List.range before.length).map fun (s : Nat) => sumL before (thwO g beds (s : Int)) 0
def rwO (g : Int) (beds : List Int) (most : Nat) : Nat → List Int
  | 0 => 1 :: List.replicate most 0
  | k + 1 => rowO g beds (rwO g beds most k)
theorem rowO_len (g : Int) (beds before : List Int) : (rowO g beds before).length = before.length := by unfold rowO; simp
theorem rwO_len (g : Int) (beds : List Int) (most : Nat) : ∀ k, (rwO g beds most k).length = most + 1
  | 0 => by simp [rwO]
  | k + 1 => by unfold rwO; rw [rowO_len, rwO_len g beds most k]
/-- All rows of counts. -/
def rwsO (g : Int) (beds : List Int) (most darts : Nat) : List (List Int) := (List.range (darts + 1)).map (rwO g beds most)
/-- How many ways there are out of a score. -/
def totO (rows : List (List Int)) (s : Nat) : Int := (rows.drop 1).foldl (fun a r => wrap64 (a + r.getD s 0)) 0
def fewB (l : List Int) (t : List (Int × Int)) (b : Int) : Int := t.foldl (fun b p => if l.getD p.2.toNat 0 ≠ -1 ∧ (b = -1 ∨ l.getD p.2.toNat 0 + 1 < b) then l.getD p.2.toNat 0 + 1 else b) b
/-- With how few darts each score is ended. -/
def fewO (g : Int) (beds : List Int) : Nat → List Int
  | 0 => [0]
  | s + 1 => fewO g beds s ++ [fewB (fewO g beds s) (thwO g beds ((s : Int) + 1)) (-1)]
theorem fewO_len (g : Int) (beds : List Int) : ∀ s, (fewO g beds s).length = s + 1
  | 0 => rfl
  | s + 1 => by unfold fewO; rw [List.length_append, fewO_len g beds s]; rfl
/-- All ways with just so many beds from a score, behind some first beds. -/
def wayO (g : Int) (beds : List Int) (rows : List (List Int)) : Nat → Int → List Int → List (List Int)
  | 0, _, first => [first]
  | k + 1, s, first => (thwO g beds s).flatMap fun p => if 0 < (rows.getD k []).getD p.2.toNat 0 then wayO g beds rows k p.2 (first ++ [p.1]) else []
/-- All ways out, the smaller ones first. -/
def allO (g : Int) (beds : List Int) (rows : List (List Int)) (darts : Nat) (s : Nat) : List (List Int) := (List.range darts).flatMap fun k => if 0 < (rows.getD (k + 1) []).getD s 0 then wayO g beds rows (k + 1) s [] else []
end Go.Proofs.Ytpifdeglhalefaa
namespace Go.Proofs.Ytpifdeglhalefaa
open Go.RowKit Go.BigFrame
attribute [local go_sem] Later.cell Later.frozen
/-- Whether rules are valid. -/
def rulO (beds : List Int) (g darts : Int) : Bool := areB beds && (ins 0 2 [g] && ins 1 9 [darts])
def rulE (beds : List Int) (g darts : Int) : Int := if rulO beds g darts = true then 0 else 2
theorem rulE_ok {beds : List Int} {g darts : Int} (h : rulO beds g darts = true) : rulE beds g darts = 0 := if_pos h
theorem rulE_bad {beds : List Int} {g darts : Int} (h : rulO beds g darts = false) : rulE beds g darts = 2 := by unfold rulE; rw [h]; rfl
theorem ret_i {a b : Int} (h : a = b) : Ending.returned (.int .i64 a) = .returned (.int .i64 b) := by rw [h]
set_option maxHeartbeats 1000000 in
theorem out_Check (beds : List Int) (g darts : Int) (a : Option Addr) (c : Nat) (w : World) (ha : CellsAt w .i64 a beds) (hl : beds.length ≤ 9223372036854775807) (hw : ∀ b ∈ beds, I64 b) :
    Calls Try.prog 42 #[.agg #[.slice a beds.length c, .int .i64 g, .int .i64 darts]] w fun e w' => e = .returned (.int .i64 (rulE beds g darts)) ∧ Ext w w' := by
  go_enter Try.func42, Try.ntmps42
  go_wp2_with fail
  have hx0 := (Ext.refl w).alloc (.cells #[.slice a beds.length c, .int .i64 g, .int .i64 darts] 74)
  refine (out_areBeds beds a c _ (ha.ext hx0) hl hw).mono ?_
  rintro e w1 ⟨rfl, hx1⟩
  have HX1 := Lib.hid (hx0.trans hx1)
  have hb := (Blk.new w #[.slice a beds.length c, .int .i64 g, .int .i64 darts] 74).ext hx1
  have c1 := hb.cell 1 (v := .int .i64 g) rfl
  have c2 := hb.cell 2 (v := .int .i64 darts) rfl
  have cl := hb.lt
  clear hx0 hx1 ha
  have HB := Lib.hid hb
  clear hb
  cases h1 : areB beds
  · go_wp2
    go_ret
    exact ⟨ret_i (rulE_bad (by simp [rulO, h1])).symm, HX1.out⟩
  · go_wp2_with fail
    refine (out_isGate g _).mono ?_
    rintro e w2 ⟨rfl, hx2⟩
    have HX2 := Lib.hid (HX1.out.trans hx2)
    have c2 := (HB.out.ext hx2).cell 2 (v := .int .i64 darts) rfl
    have cl := (HB.out.ext hx2).lt
    clear hx2 c1
    cases h2 : ins 0 2 [g]
    · go_wp2
      go_ret
      exact ⟨ret_i (rulE_bad (by simp [rulO, h1, h2])).symm, HX2.out⟩
    · go_wp2_with fail
      refine (out_within_1 _ _ _ _ _ (by simp)).mono ?_
      rintro e w3 ⟨rfl, hx3⟩
      cases h3 : ins 1 9 [darts]
      · go_wp2
        go_ret
        exact ⟨ret_i (rulE_bad (by simp [rulO, h1, h2, h3])).symm, HX2.out.trans hx3⟩
      · go_wp2
        go_ret
        exact ⟨ret_i (rulE_ok (by simp [rulO, h1, h2, h3])).symm, HX2.out.trans hx3⟩
set_option maxHeartbeats 1000000 in
/-- What a bed leaves of a score (b: a board, of which the gate is read). -/
theorem out_after (B : Nat) (v0 v2 : Value) (g s x : Int) (w : World) (hB : Blk w B #[v0, .int .i64 g, v2]) (hx : I64 x) (hs : I64 (s - wrt x)) :
    Calls Try.prog 71 #[.pointer (some ⟨B, 0, none⟩), .int .i64 s, .agg #[.int .i64 x]] w fun e w' => e = .returned (.tuple #[.int .i64 (s - wrt x), .bool (aftB g s x)]) ∧ Ext w w' := by
  go_enter Try.func71, Try.ntmps71
  have hx0 := (Ext.refl w).alloc (.cells #[.int .i64 x] 124)
  go_wp2_with fail
  refine (out_worth x _ hx).mono ?_
  rintro e w1 ⟨rfl, hx1⟩
  have HX1 := Lib.hid (hx0.trans hx1)
  have k0 := ((Blk.new w #[.int .i64 x] 124).ext hx1).cell 0 (v := .int .i64 x) rfl
  have kl := ((Blk.new w #[.int .i64 x] 124).ext hx1).lt
  have b1 := (hB.ext HX1.out).cell 1 (v := .int .i64 g) rfl
  have bl := (hB.ext HX1.out).lt
  clear hx0 hx1 hB
  have hw : wrap64 (s - wrt x) = s - wrt x := wrap64_in' hs
  have HA : Hid (aftB g s x = if s - wrt x = 0 then opnO g x else if s - wrt x = 1 then g == 0 else decide (1 < s - wrt x)) := Lib.hid rfl
  go_upto_region 2 with fail
  rw [hw]
  obtain ⟨d, hd⟩ : ∃ d, s - wrt x = d := ⟨_, rfl⟩
  rw [hd] at HA ⊢
  have HD := Lib.hid hd
  clear hd hw
  by_cases h0 : d = 0
  · subst h0
    rw [if_pos rfl] at HA
    have m1 : ∀ y : Later w1, y.world.cell? ⟨B, 1, none⟩ = some (.int .i64 g) := fun y => y.ext.cell b1
    have m0 : ∀ y : Later w1, y.world.cell? ⟨w.heap.size, 0, none⟩ = some (.int .i64 x) := fun y => y.ext.cell k0
    go_upto_region 3 with fail
    refine wp_region_later (by kernel_rfl) (by kernel_rfl) ?_
    repeat (go_big_quiet_step (refine Calls.later (out_opens _ _ _ hx)))
    refine wpQuiet_nil ?_
    rintro _ ⟨⟨w2, hx2⟩, rfl⟩
    go_wp2
    refine bodyPost_ret (v := .tuple #[.int .i64 0, .bool (opnO g x)]) (by simp [results, Try.results71, go_sem]) rfl ⟨by rw [HA.out, HD.out], HX1.out.trans hx2⟩
  · rw [if_neg h0] at HA
    by_cases h1 : d = 1
    · subst h1
      rw [if_pos rfl] at HA
      have m1 : ∀ y : Later w1, y.world.cell? ⟨B, 1, none⟩ = some (.int .i64 g) := fun y => y.ext.cell b1
      go_upto_region 5 with fail
      refine wp_region_later (by kernel_rfl) (by kernel_rfl) ?_
      repeat (go_big_quiet_step (fail))
      refine wpQuiet_nil ?_
      rintro _ ⟨⟨w2, hx2⟩, rfl⟩
      go_wp2
      refine bodyPost_ret (v := .tuple #[.int .i64 1, .bool (g == 0)]) (by simp [results, Try.results71, go_sem]) rfl ⟨by rw [HA.out, HD.out], HX1.out.trans hx2⟩
    · rw [if_neg h1] at HA
      have e0 : (d == 0) = false := by simpa using h0
      have e1 : (d == 1) = false := by simpa using h1
      go_wp2
      refine bodyPost_ret (v := .tuple #[.int .i64 d, .bool (decide (1 < d))]) (by simp [results, Try.results71, go_sem]) rfl ⟨by rw [HA.out, HD.out], HX1.out⟩
end Go.Proofs.Ytpifdeglhalefaa
