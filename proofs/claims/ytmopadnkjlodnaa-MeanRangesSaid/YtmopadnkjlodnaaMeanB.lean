/-
  Package mean: whether a bed is one; whether laws are valid.
-/
import Derived.Test.YtmopadnkjlodnaaMeanA
namespace Go.Proofs.Ytmopadnkjlodnaa
open Go.RowKit
attribute [local go_sem] Later.cell Later.frozen

theorem mean_within_1 (lo hi x : Int) (w : World) (n : Nat) (hn : n = w.heap.size) :
    Calls Try.prog 61 #[.int .i64 lo, .int .i64 hi, .slice (some ⟨n, 0, none⟩) 1 1] (w.alloc (.cells #[.int .i64 x] 3)) fun e w' => e = .returned (.bool (ins lo hi [x])) ∧ Ext w w' :=
  (mean_within lo hi [x] _ 1 _ (by simp) (CellsAt.one w x _ hn)).mono fun _ _ ⟨he, hx⟩ => ⟨he, ((Ext.refl w).alloc _).trans hx⟩
theorem mean_within_2 (lo hi x y : Int) (w : World) (n : Nat) (hn : n = w.heap.size) :
    Calls Try.prog 61 #[.int .i64 lo, .int .i64 hi, .slice (some ⟨n, 0, none⟩) 2 2] (w.alloc (.cells #[.int .i64 x, .int .i64 y] 3)) fun e w' => e = .returned (.bool (ins lo hi [x, y])) ∧ Ext w w' :=
  (mean_within lo hi [x, y] _ 2 _ (by simp) (CellsAt.two w x y _ hn)).mono fun _ _ ⟨he, hx⟩ => ⟨he, ((Ext.refl w).alloc _).trans hx⟩

set_option maxHeartbeats 400000 in
theorem mean_isBed (b : Int) (w : World) (hb : I64 b) : Calls Try.prog 75 #[.agg #[.int .i64 b]] w fun e w' => e = .returned (.bool (isBedB b)) ∧ Ext w w' := by
  cases h1 : b == 125
  · cases h2 : b == 225
    · go_enter Try.func75, Try.ntmps75
      go_wp2_with fail
      refine (mean_factor _ _ hb).mono ?_
      rintro e w1 ⟨rfl, hx1⟩
      obtain ⟨hc1, hf1⟩ := hx1.reads
      go_wp2_with fail
      refine (mean_within_1 _ _ _ _ _ (by simp)).mono ?_
      rintro e w2 ⟨rfl, hx2⟩
      obtain ⟨hc2, hf2⟩ := (hx1.trans hx2).reads
      clear hc1 hf1
      cases h3 : ins 1 4 [fct b]
      · go_wp2
        go_ret
        exact ⟨ret_bool (by simp [isBedB, *]), ((Ext.refl w).alloc _).trans (hx1.trans hx2)⟩
      · go_wp2_with fail
        refine (mean_number _ _).mono ?_
        rintro e w3 ⟨rfl, hx3⟩
        go_wp2_with fail
        refine (mean_within_1 _ _ _ _ _ (by simp)).mono ?_
        rintro e w4 ⟨rfl, hx4⟩
        go_wp2
        go_ret
        exact ⟨ret_bool (by simp [isBedB, *]), ((Ext.refl w).alloc _).trans (((hx1.trans hx2).trans hx3).trans hx4)⟩
    · obtain rfl : b = 225 := by simpa using h2
      go_enter Try.func75, Try.ntmps75
      go_wp2
      go_ret
      exact ⟨ret_bool (by simp [isBedB]), (Ext.refl w).alloc _⟩
  · obtain rfl : b = 125 := by simpa using h1
    go_enter Try.func75, Try.ntmps75
    go_wp2
    go_ret
    exact ⟨ret_bool (by simp [isBedB]), (Ext.refl w).alloc _⟩

/-- Each bed is one, and each is greater than the one before. -/
def bedsB : List Int → Bool
  | [] => true
  | [x] => isBedB x
  | x :: y :: l => isBedB x && decide (x < y) && bedsB (y :: l)
/-- Whether laws are valid. -/
def lawsB (start gin gout : Int) (beds : List Int) : Bool := bedsB beds && (ins 2 1001 [start] && ins 0 2 [gin, gout] && ins 1 82 [(beds.length : Int)])
/-- So far, as the loop goes: of the first k beds each is one and greater than the one before. -/
def bedsTo (l : List Int) (k : Nat) : Prop := ∀ i, (h : i < l.length) → i < k → isBedB l[i] = true ∧ ∀ h0 : 0 < i, l[i - 1] < l[i]
theorem bedsB_iff (l : List Int) : bedsB l = true ↔ bedsTo l l.length := by
  induction l with
  | nil => simp [bedsB, bedsTo]
  | cons x l ih =>
    cases l with
    | nil => simp only [bedsB, bedsTo]; constructor
             · intro h i hi _; obtain rfl : i = 0 := by simpa using hi
               exact ⟨h, by omega⟩
             · intro h; exact (h 0 (by simp) (by simp)).1
    | cons y l =>
      simp only [bedsB, Bool.and_eq_true, decide_eq_true_eq, ih]
      constructor
      · rintro ⟨⟨h1, h2⟩, h3⟩ i hi hk
        match i, hi, hk with
        | 0, hi, hk => exact ⟨h1, by omega⟩
        | 1, hi, hk => exact ⟨(h3 0 (by simp) (by simp)).1, fun _ => h2⟩
        | i + 2, hi, hk =>
          have := h3 (i + 1) (by simpa using hi) (by simpa using hk)
          exact ⟨this.1, fun _ => this.2 (by omega)⟩
      · intro h
        refine ⟨⟨(h 0 (by simp) (by simp)).1, (h 1 (by simp) (by simp)).2 (by omega)⟩, fun i hi hk => ?_⟩
        have := h (i + 1) (by simpa using hi) (by simpa using hk)
        refine ⟨this.1, fun h0 => ?_⟩
        have h2 := this.2 (by omega)
        cases i with
        | zero => omega
        | succ i => exact h2
theorem bedsB_false {l : List Int} {k : Nat} (h : k < l.length) (hb : isBedB l[k] = false ∨ ∃ h0 : 0 < k, l[k] ≤ l[k - 1]) : bedsB l = false := by
  rw [Bool.eq_false_iff, Ne, bedsB_iff]
  intro hh
  have := hh k h h
  rcases hb with hb | ⟨h0, hb⟩
  · rw [this.1] at hb; cases hb
  · have := this.2 h0; omega
theorem bedsTo_succ {l : List Int} {k : Nat} (h : bedsTo l k) (hk : k < l.length) (hb : isBedB l[k] = true) (hl : ∀ h0 : 0 < k, l[k - 1] < l[k]) : bedsTo l (k + 1) := fun i hi hik => by
  rcases Nat.lt_or_ge i k with h' | h'
  · exact h i hi h'
  · obtain rfl : i = k := by omega
    exact ⟨hb, hl⟩
set_option maxHeartbeats 1000000 in
theorem mean_isValid (start gin gout : Int) (beds : List Int) (a : Option Addr) (c : Nat) (w : World) (ha : CellsAt w .i64 a beds) (hl : beds.length ≤ 9223372036854775807) (hw : ∀ b ∈ beds, I64 b) :
    Calls Try.prog 47 #[.agg #[.int .i64 start, .int .i64 gin, .int .i64 gout, .slice a beds.length c]] w fun e w' => e = .returned (.bool (lawsB start gin gout beds)) ∧ Ext w w' := by
  go_enter Try.func47, Try.ntmps47
  go_wp2
  obtain ⟨w0, hw0⟩ : ∃ w0, w0 = w.alloc (.cells #[.int .i64 start, .int .i64 gin, .int .i64 gout, .slice a beds.length c] 101) := ⟨_, rfl⟩
  have hx0 : Ext w w0 := by rw [hw0]; exact (Ext.refl w).alloc _
  have c0 : w0.cell? ⟨w.heap.size, 0, none⟩ = some (.int .i64 start) := by rw [hw0]; simp [go_sem]
  have c1 : w0.cell? ⟨w.heap.size, 1, none⟩ = some (.int .i64 gin) := by rw [hw0]; simp [go_sem]
  have c2 : w0.cell? ⟨w.heap.size, 2, none⟩ = some (.int .i64 gout) := by rw [hw0]; simp [go_sem]
  have c3 : w0.cell? ⟨w.heap.size, 3, none⟩ = some (.slice a beds.length c) := by rw [hw0]; simp [go_sem]
  rw [← hw0]
  have ha0 := ha.ext hx0
  clear ha
  go_loopw [8] (fun i wr => ∃ k : Nat, k ≤ beds.length ∧ i = .int .i64 k ∧ bedsTo beds k ∧ Ext w0 wr) (fun i _ => beds.length - (intOf i).toNat)
  case atStart => exact ⟨0, Nat.zero_le _, rfl, fun i _ h => absurd h (by omega), Ext.refl w0⟩
  case round =>
    obtain ⟨k, hk, rfl, hall, hx⟩ := hrel
    have d0 := hx.cell c0
    have d1 := hx.cell c1
    have d2 := hx.cell c2
    have d3 := hx.cell c3
    clear c0 c1 c2 c3
    have HW := Lib.hid hw0
    clear hw0
    by_cases hlt : k < beds.length
    · obtain ⟨b, off, rfl, hc0⟩ := ha0 k hlt
      have hc := hx.cell hc0
      have hp : 0 < k → wr.cell? ⟨b, off + (k - 1), none⟩ = some (.int .i64 beds[k - 1]) := fun h0 => by
        obtain ⟨b', o', e, h'⟩ := ha0 (k - 1) (by omega)
        cases e; exact hx.cell h'
      have H := Lib.hid hall
      clear hall ha0 hc0
      go_wp2_with fail
      refine (mean_isBed _ _ (hw _ (List.getElem_mem hlt))).mono ?_
      rintro e w1 ⟨rfl, hx1⟩
      replace d3 := hx1.cell d3
      cases hib : isBedB beds[k]
      · go_wp2
        go_ret
        exact ⟨ret_bool (by simp [lawsB, bedsB_false hlt (.inl hib)]), hx0.trans (hx.trans hx1)⟩
      · by_cases h0 : 0 < k
        · replace hp := hx1.cell (hp h0)
          by_cases hge : beds[k] ≤ beds[k - 1]
          · go_wp2
            go_ret
            exact ⟨ret_bool (by simp [lawsB, bedsB_false hlt (.inr ⟨h0, hge⟩)]), hx0.trans (hx.trans hx1)⟩
          · go_wp2
            go_roundw
            case rel => exact ⟨k + 1, by omega, by go_num, bedsTo_succ H.out hlt hib (fun _ => by omega), hx.trans hx1⟩
            case measure => simp [intOf]; omega
        · clear hp
          go_wp2
          go_roundw
          case rel => exact ⟨k + 1, by omega, by go_num, bedsTo_succ H.out hlt hib (fun h => absurd h h0), hx.trans hx1⟩
          case measure => simp [intOf]; omega
    · obtain rfl : k = beds.length := by omega
      have hv := (bedsB_iff beds).2 hall
      clear hall
      have HV := Lib.hid hv
      clear hv
      go_wp2_with fail
      refine (mean_within_1 _ _ _ _ _ (by simp)).mono ?_
      rintro e w1 ⟨rfl, hx1⟩
      replace d1 := hx1.cell d1; replace d2 := hx1.cell d2; replace d3 := hx1.cell d3
      clear d0
      cases hs : ins 2 1001 [start]
      · go_wp2
        go_ret
        exact ⟨ret_bool (by simp [lawsB, hs]), hx0.trans (hx.trans hx1)⟩
      · go_wp2_with fail
        refine (mean_within_2 _ _ _ _ _ _ (by simp)).mono ?_
        rintro e w2 ⟨rfl, hx2⟩
        replace d3 := hx2.cell d3
        clear d1 d2
        cases hg : ins 0 2 [gin, gout]
        · go_wp2
          go_ret
          exact ⟨ret_bool (by simp [lawsB, hg]), hx0.trans (hx.trans (hx1.trans hx2))⟩
        · go_wp2_with fail
          refine (mean_within_1 _ _ _ _ _ (by simp)).mono ?_
          rintro e w3 ⟨rfl, hx3⟩
          go_wp2
          go_ret
          exact ⟨ret_bool (by simp [lawsB, hs, hg, HV.out]), hx0.trans (hx.trans (hx1.trans (hx2.trans hx3)))⟩
end Go.Proofs.Ytmopadnkjlodnaa
