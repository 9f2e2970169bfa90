/-
  Package mean: what a dart does: hit, isFinish.
-/
import Derived.Test.YtmopadnkjlodnaaBase
import Derived.Test.YtmopadnkjlodnaaProg
import Derived.Shelf.Abstract
namespace Go.Proofs.Ytmopadnkjlodnaa
open Go.RowKit

theorem CellsAt.one (w : World) (x : Int) (t : TypeId) {n : Nat} (hn : n = w.heap.size) : CellsAt (w.alloc (.cells #[.int .i64 x] t)) .i64 (some ⟨n, 0, none⟩) [x] := fun i hi => by
  subst hn
  obtain rfl : i = 0 := by simpa using hi
  exact ⟨_, _, rfl, by simp [go_sem]⟩
theorem CellsAt.two (w : World) (x y : Int) (t : TypeId) {n : Nat} (hn : n = w.heap.size) : CellsAt (w.alloc (.cells #[.int .i64 x, .int .i64 y] t)) .i64 (some ⟨n, 0, none⟩) [x, y] := fun i hi => by
  subst hn
  match i, hi with
  | 0, _ => exact ⟨_, _, rfl, by simp [go_sem]⟩
  | 1, _ => exact ⟨_, _, rfl, by simp [go_sem]⟩
theorem CellsAt.three (w : World) (x y z : Int) (t : TypeId) {n : Nat} (hn : n = w.heap.size) : CellsAt (w.alloc (.cells #[.int .i64 x, .int .i64 y, .int .i64 z] t)) .i64 (some ⟨n, 0, none⟩) [x, y, z] := fun i hi => by
  subst hn
  match i, hi with
  | 0, _ => exact ⟨_, _, rfl, by simp [go_sem]⟩
  | 1, _ => exact ⟨_, _, rfl, by simp [go_sem]⟩
  | 2, _ => exact ⟨_, _, rfl, by simp [go_sem]⟩
/-- The factor, the number and the score of a bed. -/
def fct (b : Int) : Int := b.tdiv 100
def nmb (b : Int) : Int := b.tmod 100
def wrt (b : Int) : Int := fct b * nmb b
theorem fct_bounds {b : Int} (h : I64 b) : -92233720368547758 ≤ fct b ∧ fct b ≤ 92233720368547758 := by
  unfold I64 at h; unfold fct
  rcases Int.le_total 0 b with hb | hb
  · rw [Int.tdiv_eq_ediv_of_nonneg hb]; omega
  · have : b.tdiv 100 = -((-b) / 100) := by rw [← Int.tdiv_eq_ediv_of_nonneg (by omega), Int.neg_tdiv, Int.neg_neg]
    rw [this]; omega
theorem nmb_bounds (b : Int) : -99 ≤ nmb b ∧ nmb b ≤ 99 := by
  unfold nmb
  rcases Int.le_total 0 b with hb | hb
  · rw [Int.tmod_eq_emod_of_nonneg hb]; omega
  · have : b.tmod 100 = -((-b) % 100) := by rw [← Int.tmod_eq_emod_of_nonneg (by omega), Int.neg_tmod, Int.neg_neg]
    rw [this]; omega
theorem wrt_bounds {b : Int} (h : I64 b) : -9223372036854775800 ≤ wrt b ∧ wrt b ≤ 9223372036854775800 := by
  have h1 := fct_bounds h
  have h2 := nmb_bounds b
  unfold wrt
  generalize fct b = x at *
  generalize nmb b = y at *
  have a1 : x * y ≤ 9131138316486228042 := by
    rcases Int.le_total 0 y with hy | hy
    · exact Int.le_trans (Int.mul_le_mul_of_nonneg_right h1.2 hy) (by omega)
    · exact Int.le_trans (Int.mul_le_mul_of_nonpos_right h1.1 hy) (by omega)
  have a2 : -9131138316486228042 ≤ x * y := by
    rcases Int.le_total 0 y with hy | hy
    · exact Int.le_trans (by omega) (Int.mul_le_mul_of_nonneg_right h1.1 hy)
    · exact Int.le_trans (by omega) (Int.mul_le_mul_of_nonpos_right h1.2 hy)
  omega
theorem wrap_fct {b : Int} (h : I64 b) : wrap64 (b.tdiv 100) = fct b := by
  have := fct_bounds h
  exact IntWalk.wrap64_in _ ⟨by unfold fct at this; omega, by unfold fct at this; omega⟩
theorem wrap_wrt {b : Int} (h : I64 b) : IntKind.i64.wrap (fct b * nmb b) = wrt b := by
  have := wrt_bounds h
  exact wrap_i64_in ⟨by unfold wrt at this; omega, by unfold wrt at this; omega⟩

/-- Whether numbers lie between two others. -/
def out1 (least most : Int) (n : Int) : Bool := decide (n < least) || decide (most < n)
def ins (least most : Int) (l : List Int) : Bool := !l.any (out1 least most)
/-- Whether a bed opens a gate. -/
def opn (g b : Int) : Bool := if g = 1 then fct b == 2 else if g = 2 then decide (2 ≤ fct b) else decide (1 ≤ fct b)
/-- Whether a bed is one other than a miss. -/
def isBedB (b : Int) : Bool := b == 125 || b == 225 || (ins 1 4 [fct b] && ins 1 20 [nmb b])
/-- What a dart does: what is left, whether the player is in, and 0 (it goes on), 1 (it wins) or 2 (it busts). -/
def hitS (gin gout left : Int) (inn : Bool) (x : Int) : Int × Bool × Int :=
  if (x == 0) = true ∨ inn = false ∧ opn gin x = false then (left, inn, 0)
  else if left - wrt x = 0 ∧ opn gout x = true then (0, true, 1)
  else if 1 < left - wrt x ∨ left - wrt x = 1 ∧ (gout == 0) = true then (left - wrt x, true, 0)
  else (left, inn, 2)
end Go.Proofs.Ytmopadnkjlodnaa
namespace Go.Proofs.Ytmopadnkjlodnaa
open Go.RowKit

/-- What a function value owes: at each element, in each later world, it returns p of it. -/
def Tests (g : Nat) (cap : Array Value) (p : Int → Bool) (xs : List Int) (w : World) : Prop :=
  ∀ x, x ∈ xs → ∀ w1, Ext w w1 → Calls Try.prog g (#[.int .i64 x] ++ cap) w1 fun e w' => e = .returned (.bool (p x)) ∧ Ext w1 w'
theorem Tests.ext {g : Nat} {cap : Array Value} {p : Int → Bool} {xs : List Int} {w w1 : World} (h : Tests g cap p xs w) (he : Ext w w1) : Tests g cap p xs w1 := fun x hx w2 h2 => h x hx w2 (he.trans h2)

theorem indexFunc_i (g : Nat) (cap : Array Value) (eg : Enters Try.prog g) (p : Int → Bool) (xs : List Int) (a : Option Addr) (c : Nat) (w : World) (ha : CellsAt w .i64 a xs) (hl : xs.length ≤ 9223372036854775807)
    (hg : Tests g cap p xs w) :
    Calls Try.prog 76 #[.slice a xs.length c, .func (.func g) #[] cap] w fun e w' => e = .returned (.int .i64 (idx p xs)) ∧ Ext w w' := by
  unfold Enters at eg
  go_enter Try.func76, Try.ntmps76
  go_wp2
  go_loopw [8] (fun i wr => ∃ k : Nat, k ≤ xs.length ∧ i = .int .i64 k ∧ (∀ j, (h : j < xs.length) → j < k → p xs[j] = false) ∧ Ext w wr) (fun i _ => xs.length - (intOf i).toNat)
  case atStart => exact ⟨0, Nat.zero_le _, rfl, by omega, Ext.refl w⟩
  case round =>
    obtain ⟨k, hk, rfl, hall, hx⟩ := hrel
    by_cases hlt : k < xs.length
    · obtain ⟨b, off, rfl, hc0⟩ := ha k hlt
      have hc := hx.cell hc0
      have hgk := hg xs[k] (List.getElem_mem hlt) wr hx
      have H := Lib.hid hall
      clear hall ha hg hc0
      go_wp2_with fail
      refine hgk.mono ?_
      rintro e w1 ⟨rfl, hx1⟩
      cases hp : p xs[k]
      · go_wp2
        go_roundw
        case rel => exact ⟨k + 1, by omega, by go_num, fun j hj hjk => by rcases Nat.lt_or_ge j k with h | h; exact H.out j hj h; obtain rfl : j = k := by omega
                                                                          exact hp, hx.trans hx1⟩
        case measure => simp [intOf]; omega
      · go_wp2
        go_ret
        exact ⟨ret_int (idx_hit p xs k hlt hp H.out).symm, hx.trans hx1⟩
    · go_wp2
      go_ret
      exact ⟨ret_int (idx_none p xs fun j hj => hall j hj (by omega)).symm, hx⟩
theorem containsFunc_i (g : Nat) (cap : Array Value) (eg : Enters Try.prog g) (p : Int → Bool) (xs : List Int) (a : Option Addr) (c : Nat) (w : World) (ha : CellsAt w .i64 a xs) (hl : xs.length ≤ 9223372036854775807)
    (hg : Tests g cap p xs w) :
    Calls Try.prog 48 #[.slice a xs.length c, .func (.func g) #[] cap] w fun e w' => e = .returned (.bool (xs.any p)) ∧ Ext w w' := by
  go_enter Try.func48, Try.ntmps48
  go_wp2_with fail
  refine (indexFunc_i g cap eg p xs a c w ha hl hg).mono ?_
  rintro e w1 ⟨rfl, hx⟩
  go_wp2
  go_ret
  exact ⟨ret_bool (idx_any p xs), hx⟩
end Go.Proofs.Ytmopadnkjlodnaa
namespace Go.Proofs.Ytmopadnkjlodnaa
open Go.RowKit

theorem indexFunc_b (g : Nat) (cap : Array Value) (eg : Enters Try.prog g) (p : Int → Bool) (xs : List Int) (a : Option Addr) (c : Nat) (w : World) (ha : CellsAt w .i64 a xs) (hl : xs.length ≤ 9223372036854775807)
    (hg : Tests g cap p xs w) :
    Calls Try.prog 105 #[.slice a xs.length c, .func (.func g) #[] cap] w fun e w' => e = .returned (.int .i64 (idx p xs)) ∧ Ext w w' := by
  unfold Enters at eg
  go_enter Try.func105, Try.ntmps105
  go_wp2
  go_loopw [8] (fun i wr => ∃ k : Nat, k ≤ xs.length ∧ i = .int .i64 k ∧ (∀ j, (h : j < xs.length) → j < k → p xs[j] = false) ∧ Ext w wr) (fun i _ => xs.length - (intOf i).toNat)
  case atStart => exact ⟨0, Nat.zero_le _, rfl, by omega, Ext.refl w⟩
  case round =>
    obtain ⟨k, hk, rfl, hall, hx⟩ := hrel
    by_cases hlt : k < xs.length
    · obtain ⟨b, off, rfl, hc0⟩ := ha k hlt
      have hc := hx.cell hc0
      have hgk := hg xs[k] (List.getElem_mem hlt) wr hx
      have H := Lib.hid hall
      clear hall ha hg hc0
      go_wp2_with fail
      refine hgk.mono ?_
      rintro e w1 ⟨rfl, hx1⟩
      cases hp : p xs[k]
      · go_wp2
        go_roundw
        case rel => exact ⟨k + 1, by omega, by go_num, fun j hj hjk => by rcases Nat.lt_or_ge j k with h | h; exact H.out j hj h; obtain rfl : j = k := by omega
                                                                          exact hp, hx.trans hx1⟩
        case measure => simp [intOf]; omega
      · go_wp2
        go_ret
        exact ⟨ret_int (idx_hit p xs k hlt hp H.out).symm, hx.trans hx1⟩
    · go_wp2
      go_ret
      exact ⟨ret_int (idx_none p xs fun j hj => hall j hj (by omega)).symm, hx⟩
theorem containsFunc_b (g : Nat) (cap : Array Value) (eg : Enters Try.prog g) (p : Int → Bool) (xs : List Int) (a : Option Addr) (c : Nat) (w : World) (ha : CellsAt w .i64 a xs) (hl : xs.length ≤ 9223372036854775807)
    (hg : Tests g cap p xs w) :
    Calls Try.prog 96 #[.slice a xs.length c, .func (.func g) #[] cap] w fun e w' => e = .returned (.bool (xs.any p)) ∧ Ext w w' := by
  go_enter Try.func96, Try.ntmps96
  go_wp2_with fail
  refine (indexFunc_b g cap eg p xs a c w ha hl hg).mono ?_
  rintro e w1 ⟨rfl, hx⟩
  go_wp2
  go_ret
  exact ⟨ret_bool (idx_any p xs), hx⟩
end Go.Proofs.Ytmopadnkjlodnaa
namespace Go.Proofs.Ytmopadnkjlodnaa
open Go.RowKit
attribute [local go_sem] Later.cell Later.frozen

theorem mean_factor (b : Int) (w : World) (hb : I64 b) : Calls Try.prog 92 #[.agg #[.int .i64 b]] w fun e w' => e = .returned (.int .i64 (fct b)) ∧ Ext w w' := by
  go_enter Try.func92, Try.ntmps92
  go_wp2
  go_ret
  exact ⟨ret_int (wrap_fct hb), (Ext.refl w).alloc _⟩
theorem mean_number (b : Int) (w : World) : Calls Try.prog 93 #[.agg #[.int .i64 b]] w fun e w' => e = .returned (.int .i64 (nmb b)) ∧ Ext w w' := by
  go_enter Try.func93, Try.ntmps93
  go_wp2
  go_ret
  exact ⟨rfl, (Ext.refl w).alloc _⟩
theorem mean_worth (b : Int) (w : World) (hb : I64 b) : Calls Try.prog 99 #[.agg #[.int .i64 b]] w fun e w' => e = .returned (.int .i64 (wrt b)) ∧ Ext w w' := by
  go_enter Try.func99, Try.ntmps99
  go_wp2
  refine wp_region_later (by kernel_rfl) (by kernel_rfl) ?_
  repeat (quiet_step (first | (refine Calls.later (mean_factor _ _ hb)) | (refine Calls.later (mean_number _ _))))
  refine wpQuiet_nil ?_
  rintro _ ⟨⟨w1, hx1⟩, rfl⟩
  go_wp2
  go_ret
  exact ⟨ret_int (wrap_wrt hb), ((Ext.refl w).alloc _).trans hx1⟩
theorem mean_within1 (n least most : Int) (al am : Addr) (w : World) (h1 : w.cell? al = some (.int .i64 least)) (h2 : w.cell? am = some (.int .i64 most)) :
    Calls Try.prog 84 #[.int .i64 n, .pointer (some al), .pointer (some am)] w fun e w' => e = .returned (.bool (out1 least most n)) ∧ Ext w w' := by
  go_enter Try.func84, Try.ntmps84
  go_wp2
  all_goals (go_ret; exact ⟨ret_bool (by simp [out1, *]), Ext.refl w⟩)
theorem enters_within1 : Enters Try.prog 84 := enters_of Try.func84 (by kernel_rfl) rfl
theorem mean_within (least most : Int) (l : List Int) (a : Option Addr) (c : Nat) (w : World) (hl : l.length ≤ 9223372036854775807) (ha : CellsAt w .i64 a l) :
    Calls Try.prog 61 #[.int .i64 least, .int .i64 most, .slice a l.length c] w fun e w' => e = .returned (.bool (ins least most l)) ∧ Ext w w' := by
  go_enter Try.func61, Try.ntmps61
  go_wp2_with fail
  have hx : Ext w ((w.alloc (.cells #[.int .i64 least] 3)).alloc (.cells #[.int .i64 most] 3)) := ((Ext.refl w).alloc _).alloc _
  refine (containsFunc_i 84 _ enters_within1 (out1 least most) l a c _ (by exact ha.ext hx) hl (by exact fun x _ w1 hx1 => mean_within1 x least most _ _ w1 (hx1.cell (by simp [go_sem])) (hx1.cell (by simp [go_sem])))).mono ?_
  rintro e w1 ⟨rfl, hx1⟩
  go_wp2
  go_ret
  exact ⟨rfl, hx.trans hx1⟩
theorem mean_opens (b g : Int) (w : World) (hb : I64 b) : Calls Try.prog 98 #[.agg #[.int .i64 b], .int .i64 g] w fun e w' => e = .returned (.bool (opn g b)) ∧ Ext w w' := by
  by_cases h1 : g = 1
  · subst h1
    go_enter Try.func98, Try.ntmps98
    go_wp2_with fail
    refine (mean_factor _ _ hb).mono ?_
    rintro e w1 ⟨rfl, hx1⟩
    go_wp2
    all_goals (go_ret; exact ⟨ret_bool (by simp [opn, *]), ((Ext.refl w).alloc _).trans hx1⟩)
  by_cases h2 : g = 2
  · subst h2
    go_enter Try.func98, Try.ntmps98
    go_wp2_with fail
    refine (mean_factor _ _ hb).mono ?_
    rintro e w1 ⟨rfl, hx1⟩
    go_wp2
    all_goals (go_ret; exact ⟨ret_bool (by simp [opn, *]), ((Ext.refl w).alloc _).trans hx1⟩)
  · have e1 : (g == 1) = false := by simpa using h1
    have e2 : (g == 2) = false := by simpa using h2
    go_enter Try.func98, Try.ntmps98
    go_wp2_with fail
    refine (mean_factor _ _ hb).mono ?_
    rintro e w1 ⟨rfl, hx1⟩
    go_wp2
    all_goals (go_ret; exact ⟨ret_bool (by simp [opn, *]), ((Ext.refl w).alloc _).trans hx1⟩)
end Go.Proofs.Ytmopadnkjlodnaa
namespace Go.Proofs.Ytmopadnkjlodnaa
open Go.RowKit
attribute [local go_sem] Later.cell Later.frozen

theorem mean_within_1 (lo hi x : Int) (w : World) (n : Nat) (hn : n = w.heap.size) :
    Calls Try.prog 61 #[.int .i64 lo, .int .i64 hi, .slice (some ⟨n, 0, none⟩) 1 1] (w.alloc (.cells #[.int .i64 x] 3)) fun e w' => e = .returned (.bool (ins lo hi [x])) ∧ Ext w w' :=
  (mean_within lo hi [x] _ 1 _ (by simp) (CellsAt.one w x _ hn)).mono fun _ _ ⟨he, hx⟩ => ⟨he, ((Ext.refl w).alloc _).trans hx⟩
theorem mean_within_2 (lo hi x y : Int) (w : World) (n : Nat) (hn : n = w.heap.size) :
    Calls Try.prog 61 #[.int .i64 lo, .int .i64 hi, .slice (some ⟨n, 0, none⟩) 2 2] (w.alloc (.cells #[.int .i64 x, .int .i64 y] 3)) fun e w' => e = .returned (.bool (ins lo hi [x, y])) ∧ Ext w w' :=
  (mean_within lo hi [x, y] _ 2 _ (by simp) (CellsAt.two w x y _ hn)).mono fun _ _ ⟨he, hx⟩ => ⟨he, ((Ext.refl w).alloc _).trans hx⟩

set_option maxHeartbeats 400000 in
theorem mean_isBed (b : Int) (w : World) (hb : I64 b) : Calls Try.prog 75 #[.agg #[.int .i64 b]] w fun e w' => e = .returned (.bool (isBedB b)) ∧ Ext w w' := by
  cases h1 : b == 125
  · cases h2 : b == 225
    · go_enter Try.func75, Try.ntmps75
      go_wp2_with fail
      refine (mean_factor _ _ hb).mono ?_
      rintro e w1 ⟨rfl, hx1⟩
      obtain ⟨hc1, hf1⟩ := hx1.reads
      go_wp2_with fail
      refine (mean_within_1 _ _ _ _ _ (by simp)).mono ?_
      rintro e w2 ⟨rfl, hx2⟩
      obtain ⟨hc2, hf2⟩ := (hx1.trans hx2).reads
      clear hc1 hf1
      cases h3 : ins 1 4 [fct b]
      · go_wp2
        go_ret
        exact ⟨ret_bool (by simp [isBedB, *]), ((Ext.refl w).alloc _).trans (hx1.trans hx2)⟩
      · go_wp2_with fail
        refine (mean_number _ _).mono ?_
        rintro e w3 ⟨rfl, hx3⟩
        go_wp2_with fail
        refine (mean_within_1 _ _ _ _ _ (by simp)).mono ?_
        rintro e w4 ⟨rfl, hx4⟩
        go_wp2
        go_ret
        exact ⟨ret_bool (by simp [isBedB, *]), ((Ext.refl w).alloc _).trans (((hx1.trans hx2).trans hx3).trans hx4)⟩
    · obtain rfl : b = 225 := by simpa using h2
      go_enter Try.func75, Try.ntmps75
      go_wp2
      go_ret
      exact ⟨ret_bool (by simp [isBedB]), (Ext.refl w).alloc _⟩
  · obtain rfl : b = 125 := by simpa using h1
    go_enter Try.func75, Try.ntmps75
    go_wp2
    go_ret
    exact ⟨ret_bool (by simp [isBedB]), (Ext.refl w).alloc _⟩

/-- Each bed is one, and each is greater than the one before. -/
def bedsB : List Int → Bool
  | [] => true
  | [x] => isBedB x
  | x :: y :: l => isBedB x && decide (x < y) && bedsB (y :: l)
/-- Whether laws are valid. -/
def lawsB (start gin gout : Int) (beds : List Int) : Bool := bedsB beds && (ins 2 1001 [start] && ins 0 2 [gin, gout] && ins 1 82 [(beds.length : Int)])
/-- So far, as the loop goes: of the first k beds each is one and greater than the one before. -/
def bedsTo (l : List Int) (k : Nat) : Prop := ∀ i, (h : i < l.length) → i < k → isBedB l[i] = true ∧ ∀ h0 : 0 < i, l[i - 1] < l[i]
theorem bedsB_iff (l : List Int) : bedsB l = true ↔ bedsTo l l.length := by
  induction l with
  | nil => simp [bedsB, bedsTo]
  | cons x l ih =>
    cases l with
    | nil => simp only [bedsB, bedsTo]; constructor
             · intro h i hi _; obtain rfl : i = 0 := by simpa using hi
               exact ⟨h, by omega⟩
             · intro h; exact (h 0 (by simp) (by simp)).1
    | cons y l =>
      simp only [bedsB, Bool.and_eq_true, decide_eq_true_eq, ih]
      constructor
      · rintro ⟨⟨h1, h2⟩, h3⟩ i hi hk
        match i, hi, hk with
        | 0, hi, hk => exact ⟨h1, by omega⟩
        | 1, hi, hk => exact ⟨(h3 0 (by simp) (by simp)).1, fun _ => h2⟩
        | i + 2, hi, hk =>
          have := h3 (i + 1) (by simpa using hi) (by simpa using hk)
          exact ⟨this.1, fun _ => this.2 (by omega)⟩
      · intro h
        refine ⟨⟨(h 0 (by simp) (by simp)).1, (h 1 (by simp) (by simp)).2 (by omega)⟩, fun i hi hk => ?_⟩
        have := h (i + 1) (by simpa using hi) (by simpa using hk)
        refine ⟨this.1, fun h0 => ?_⟩
        have h2 := this.2 (by omega)
        cases i with
        | zero => omega
        | succ i => exact h2
theorem bedsB_false {l : List Int} {k : Nat} (h : k < l.length) (hb : isBedB l[k] = false ∨ ∃ h0 : 0 < k, l[k] ≤ l[k - 1]) : bedsB l = false := by
  rw [Bool.eq_false_iff, Ne, bedsB_iff]
  intro hh
  have := hh k h h
  rcases hb with hb | ⟨h0, hb⟩
  · rw [this.1] at hb; cases hb
  · have := this.2 h0; omega
theorem bedsTo_succ {l : List Int} {k : Nat} (h : bedsTo l k) (hk : k < l.length) (hb : isBedB l[k] = true) (hl : ∀ h0 : 0 < k, l[k - 1] < l[k]) : bedsTo l (k + 1) := fun i hi hik => by
  rcases Nat.lt_or_ge i k with h' | h'
  · exact h i hi h'
  · obtain rfl : i = k := by omega
    exact ⟨hb, hl⟩
set_option maxHeartbeats 1000000 in
theorem mean_isValid (start gin gout : Int) (beds : List Int) (a : Option Addr) (c : Nat) (w : World) (ha : CellsAt w .i64 a beds) (hl : beds.length ≤ 9223372036854775807) (hw : ∀ b ∈ beds, I64 b) :
    Calls Try.prog 47 #[.agg #[.int .i64 start, .int .i64 gin, .int .i64 gout, .slice a beds.length c]] w fun e w' => e = .returned (.bool (lawsB start gin gout beds)) ∧ Ext w w' := by
  go_enter Try.func47, Try.ntmps47
  go_wp2
  obtain ⟨w0, hw0⟩ : ∃ w0, w0 = w.alloc (.cells #[.int .i64 start, .int .i64 gin, .int .i64 gout, .slice a beds.length c] 101) := ⟨_, rfl⟩
  have hx0 : Ext w w0 := by rw [hw0]; exact (Ext.refl w).alloc _
  have c0 : w0.cell? ⟨w.heap.size, 0, none⟩ = some (.int .i64 start) := by rw [hw0]; simp [go_sem]
  have c1 : w0.cell? ⟨w.heap.size, 1, none⟩ = some (.int .i64 gin) := by rw [hw0]; simp [go_sem]
  have c2 : w0.cell? ⟨w.heap.size, 2, none⟩ = some (.int .i64 gout) := by rw [hw0]; simp [go_sem]
  have c3 : w0.cell? ⟨w.heap.size, 3, none⟩ = some (.slice a beds.length c) := by rw [hw0]; simp [go_sem]
  rw [← hw0]
  have ha0 := ha.ext hx0
  clear ha
  go_loopw [8] (fun i wr => ∃ k : Nat, k ≤ beds.length ∧ i = .int .i64 k ∧ bedsTo beds k ∧ Ext w0 wr) (fun i _ => beds.length - (intOf i).toNat)
  case atStart => exact ⟨0, Nat.zero_le _, rfl, fun i _ h => absurd h (by omega), Ext.refl w0⟩
  case round =>
    obtain ⟨k, hk, rfl, hall, hx⟩ := hrel
    have d0 := hx.cell c0
    have d1 := hx.cell c1
    have d2 := hx.cell c2
    have d3 := hx.cell c3
    clear c0 c1 c2 c3
    have HW := Lib.hid hw0
    clear hw0
    by_cases hlt : k < beds.length
    · obtain ⟨b, off, rfl, hc0⟩ := ha0 k hlt
      have hc := hx.cell hc0
      have hp : 0 < k → wr.cell? ⟨b, off + (k - 1), none⟩ = some (.int .i64 beds[k - 1]) := fun h0 => by
        obtain ⟨b', o', e, h'⟩ := ha0 (k - 1) (by omega)
        cases e; exact hx.cell h'
      have H := Lib.hid hall
      clear hall ha0 hc0
      go_wp2_with fail
      refine (mean_isBed _ _ (hw _ (List.getElem_mem hlt))).mono ?_
      rintro e w1 ⟨rfl, hx1⟩
      replace d3 := hx1.cell d3
      cases hib : isBedB beds[k]
      · go_wp2
        go_ret
        exact ⟨ret_bool (by simp [lawsB, bedsB_false hlt (.inl hib)]), hx0.trans (hx.trans hx1)⟩
      · by_cases h0 : 0 < k
        · replace hp := hx1.cell (hp h0)
          by_cases hge : beds[k] ≤ beds[k - 1]
          · go_wp2
            go_ret
            exact ⟨ret_bool (by simp [lawsB, bedsB_false hlt (.inr ⟨h0, hge⟩)]), hx0.trans (hx.trans hx1)⟩
          · go_wp2
            go_roundw
            case rel => exact ⟨k + 1, by omega, by go_num, bedsTo_succ H.out hlt hib (fun _ => by omega), hx.trans hx1⟩
            case measure => simp [intOf]; omega
        · clear hp
          go_wp2
          go_roundw
          case rel => exact ⟨k + 1, by omega, by go_num, bedsTo_succ H.out hlt hib (fun h => absurd h h0), hx.trans hx1⟩
          case measure => simp [intOf]; omega
    · obtain rfl : k = beds.length := by omega
      have hv := (bedsB_iff beds).2 hall
      clear hall
      have HV := Lib.hid hv
      clear hv
      go_wp2_with fail
      refine (mean_within_1 _ _ _ _ _ (by simp)).mono ?_
      rintro e w1 ⟨rfl, hx1⟩
      replace d1 := hx1.cell d1; replace d2 := hx1.cell d2; replace d3 := hx1.cell d3
      clear d0
      cases hs : ins 2 1001 [start]
      · go_wp2
        go_ret
        exact ⟨ret_bool (by simp [lawsB, hs]), hx0.trans (hx.trans hx1)⟩
      · go_wp2_with fail
        refine (mean_within_2 _ _ _ _ _ _ (by simp)).mono ?_
        rintro e w2 ⟨rfl, hx2⟩
        replace d3 := hx2.cell d3
        clear d1 d2
        cases hg : ins 0 2 [gin, gout]
        · go_wp2
          go_ret
          exact ⟨ret_bool (by simp [lawsB, hg]), hx0.trans (hx.trans (hx1.trans hx2))⟩
        · go_wp2_with fail
          refine (mean_within_1 _ _ _ _ _ (by simp)).mono ?_
          rintro e w3 ⟨rfl, hx3⟩
          go_wp2
          go_ret
          exact ⟨ret_bool (by simp [lawsB, hs, hg, HV.out]), hx0.trans (hx.trans (hx1.trans (hx2.trans hx3)))⟩
end Go.Proofs.Ytmopadnkjlodnaa
namespace Go.Proofs.Ytmopadnkjlodnaa
open Go.RowKit

/-- A leg of the player whose darts are not known: its laws, its beds, the scores of its visits, and whether it was won. -/
structure Leg where
  start : Int
  gin : Int
  gout : Int
  beds : List Int
  scores : List Int
  won : Bool
/-- A leg as Go's value, in a world. -/
structure LegAt (w : World) (l : Leg) (v : Value) : Prop where
  val : ∃ ab cb as' cs, v = .agg #[.int .i64 l.start, .int .i64 l.gin, .int .i64 l.gout, .slice ab l.beds.length cb, .slice as' l.scores.length cs, .bool l.won] ∧ CellsAt w .i64 ab l.beds ∧ CellsAt w .i64 as' l.scores
  nb : l.beds.length ≤ 9223372036854775807
  ns : l.scores.length ≤ 9223372036854775807
  wb : ∀ b ∈ l.beds, I64 b
  ws : ∀ b ∈ l.scores, I64 b
  wst : I64 l.start
theorem LegAt.ext {w w' : World} {l : Leg} {v : Value} (h : LegAt w l v) (hx : Ext w w') : LegAt w' l v := by
  obtain ⟨⟨ab, cb, as', cs, e, h1, h2⟩, r1, r2, r3, r4, r5⟩ := h
  exact ⟨⟨ab, cb, as', cs, e, h1.ext hx, h2.ext hx⟩, r1, r2, r3, r4, r5⟩
/-- Whether a leg is valid. -/
def Leg.ok (l : Leg) : Bool := lawsB l.start l.gin l.gout l.beds && (decide (l.scores.length ≤ 100) && (!l.scores.any (fun n => decide (n < 0)) && !(l.won && l.scores.isEmpty)))

/-- The error of a leg. -/
def Leg.err (l : Leg) : Int := if l.ok then 0 else 2
theorem Leg.err_ok {l : Leg} (h : l.ok = true) : l.err = 0 := by simp [Leg.err, h]
theorem Leg.err_bad {l : Leg} (h : l.ok = false) : l.err = 2 := by simp [Leg.err, h]
theorem mean_check1 (n : Int) (w : World) : Calls Try.prog 49 #[.int .i64 n] w fun e w' => e = .returned (.bool (decide (n < 0))) ∧ Ext w w' := by
  go_enter Try.func49, Try.ntmps49
  go_wp2
  all_goals (go_ret; exact ⟨ret_bool (by simp [*]), Ext.refl w⟩)
theorem enters_check1 : Enters Try.prog 49 := enters_of Try.func49 (by kernel_rfl) rfl
set_option maxHeartbeats 1000000 in
theorem mean_Check (l : Leg) (v : Value) (w : World) (h : LegAt w l v) :
    Calls Try.prog 16 #[v] w fun e w' => e = .returned (.int .i64 l.err) ∧ Ext w w' := by
  obtain ⟨⟨ab, cb, as', cs, rfl, h1, h2⟩, r1, r2, r3, r4, r5⟩ := h
  obtain ⟨start, gin, gout, beds, scores, won⟩ := l
  dsimp only at *
  go_enter Try.func16, Try.ntmps16
  go_wp2_with fail
  refine (mean_isValid start gin gout beds ab cb _ (by exact h1.ext ((Ext.refl w).alloc _)) r1 r3).mono ?_
  rintro e w1 ⟨rfl, hx1⟩
  obtain ⟨hc1, hf1⟩ := hx1.reads
  have hx : Ext w w1 := ((Ext.refl w).alloc _).trans hx1
  cases hv : lawsB start gin gout beds
  · go_wp2
    go_ret
    exact ⟨ret_int (Leg.err_bad (by simp [Leg.ok, hv])).symm, hx⟩
  by_cases hn : scores.length ≤ 100
  · go_wp2_with fail
    refine (containsFunc_i 49 #[] enters_check1 (fun n => decide (n < 0)) scores as' cs _ (by exact h2.ext hx) r2 (by exact fun x _ w1 _ => mean_check1 x w1)).mono ?_
    rintro e w2 ⟨rfl, hx2⟩
    obtain ⟨hc2, hf2⟩ := (hx1.trans hx2).reads
    clear hc1 hf1
    cases ha : scores.any (fun n => decide (n < 0))
    · cases won
      · go_wp2
        go_ret
        exact ⟨ret_int (Leg.err_ok (by simp [Leg.ok, hv, hn, ha])).symm, hx.trans hx2⟩
      · cases h0 : ((scores.length : Int) == 0)
        · have hs : scores.isEmpty = false := by cases scores <;> simp_all
          go_wp2
          go_ret
          exact ⟨ret_int (Leg.err_ok (by simp [Leg.ok, hv, hn, ha, hs])).symm, hx.trans hx2⟩
        · have hs : scores.isEmpty = true := by cases scores with
            | nil => rfl
            | cons s l => simp at h0; omega
          go_wp2
          go_ret
          exact ⟨ret_int (Leg.err_bad (by simp [Leg.ok, hs])).symm, hx.trans hx2⟩
    · go_wp2
      go_ret
      exact ⟨ret_int (Leg.err_bad (by simp [Leg.ok, hv, ha])).symm, hx.trans hx2⟩
  · go_wp2
    go_ret
    exact ⟨ret_int (Leg.err_bad (by simp [Leg.ok, hv, hn])).symm, hx⟩
end Go.Proofs.Ytmopadnkjlodnaa
namespace Go.Proofs.Ytmopadnkjlodnaa
open Go.RowKit
attribute [local go_sem] Later.cell Later.frozen

/-- A stand and an effect as Go's values. -/
def hitV (r : Int × Bool × Int) : Value := .tuple #[.agg #[.int .i64 r.1, .bool r.2.1], .int .i64 r.2.2]
theorem ret_hit {a b : Int × Bool × Int} (h : a = b) : Ending.returned (.tuple #[.agg #[.int .i64 a.1, .bool a.2.1], .int .i64 a.2.2]) = .returned (hitV b) := by rw [h]; rfl

theorem mean_hit_miss (start gin gout left : Int) (inn : Bool) (vb : Value) (w : World) (hv : ∃ a n c, vb = .slice a n c) :
    Calls Try.prog 82 #[.agg #[.int .i64 start, .int .i64 gin, .int .i64 gout, vb], .agg #[.int .i64 left, .bool inn], .int .i64 0] w fun e w' => e = .returned (hitV (hitS gin gout left inn 0)) ∧ Ext w w' := by
  obtain ⟨a, n, c, rfl⟩ := hv
  go_enter Try.func82, Try.ntmps82
  go_wp2
  refine bodyPost_ret (v := .tuple #[.agg #[.int .i64 left, .bool inn], .int .i64 0]) (by simp [results, Try.results82, go_sem]) rfl ⟨?_, ?_⟩
  · exact ret_hit (a := (left, inn, 0)) (by simp [hitS])
  · exact ((((Ext.refl w).alloc _).alloc _).alloc _).alloc _
set_option maxHeartbeats 1000000 in
theorem mean_hit_shut (start gin gout left : Int) (vb : Value) (x : Int) (w : World) (hx : I64 x) (hv : ∃ a n c, vb = .slice a n c) (h0 : (x == 0) = false) (ho : opn gin x = false) :
    Calls Try.prog 82 #[.agg #[.int .i64 start, .int .i64 gin, .int .i64 gout, vb], .agg #[.int .i64 left, .bool false], .int .i64 x] w fun e w' => e = .returned (hitV (hitS gin gout left false x)) ∧ Ext w w' := by
  obtain ⟨a, n, c, rfl⟩ := hv
  go_enter Try.func82, Try.ntmps82
  go_wp2_with fail
  refine (mean_opens x gin _ hx).mono ?_
  rintro e w1 ⟨rfl, hx1⟩
  rw [ho]
  obtain ⟨hc1, hf1⟩ := hx1.reads
  go_wp2
  refine bodyPost_ret (v := .tuple #[.agg #[.int .i64 left, .bool false], .int .i64 0]) (by simp [results, Try.results82, go_sem, hc1]) rfl ⟨?_, ?_⟩
  · exact ret_hit (a := (left, false, 0)) (by simp [hitS, ho])
  · exact (((((((Ext.refl w).alloc _).alloc _).alloc _).alloc _).trans hx1).setCell (by simp; omega) _).setCell (by simp; omega) _
set_option maxHeartbeats 2000000 in
theorem mean_hit_open (start gin gout left : Int) (inn : Bool) (vb : Value) (x : Int) (w : World) (hx : I64 x) (hl : I64 (left - wrt x)) (hv : ∃ a n c, vb = .slice a n c) (h0 : (x == 0) = false) (ho : inn = true ∨ opn gin x = true) :
    Calls Try.prog 82 #[.agg #[.int .i64 start, .int .i64 gin, .int .i64 gout, vb], .agg #[.int .i64 left, .bool inn], .int .i64 x] w fun e w' => e = .returned (hitV (hitS gin gout left inn x)) ∧ Ext w w' := by
  obtain ⟨a, n, c, rfl⟩ := hv
  have hW := wrt_bounds hx
  have HL := Lib.hid hl
  clear hl
  cases inn
  case' false =>
    replace ho : opn gin x = true := by simpa using ho
    go_enter Try.func82, Try.ntmps82
    go_wp2_with fail
    refine (mean_opens x gin _ hx).mono ?_
    rintro e w1 ⟨rfl, hx1⟩
    rw [ho]
  case' true =>
    clear ho
    go_enter Try.func82, Try.ntmps82
    go_wp2_with fail
    obtain ⟨w1, hw1⟩ : ∃ w1, w1 = (((w.alloc (.cells #[.int .i64 start, .int .i64 gin, .int .i64 gout, .slice a n c] 101)).alloc (.cells #[.int .i64 left, .bool true] 119)).alloc (.cells #[.int .i64 0, .bool false] 119)).alloc (.cells #[.int .i64 x] 152) := ⟨_, rfl⟩
    have hx1 : Ext ((((w.alloc (.cells #[.int .i64 start, .int .i64 gin, .int .i64 gout, .slice a n c] 101)).alloc (.cells #[.int .i64 left, .bool true] 119)).alloc (.cells #[.int .i64 0, .bool false] 119)).alloc (.cells #[.int .i64 x] 152)) w1 := by rw [hw1]; exact Ext.refl _
    rw [← hw1]
    clear hw1
  all_goals
    obtain ⟨hc1, hf1⟩ := hx1.reads
    have hs := hx1.size
    simp only [World.size_alloc] at hs
    have s0 : w.heap.size < w1.heap.size := by omega
    have s1 : w.heap.size + 1 < w1.heap.size := by omega
    have s2 : w.heap.size + 1 + 1 < w1.heap.size := by omega
    have s3 : w.heap.size + 1 + 1 + 1 < w1.heap.size := by omega
    clear hs
    try go_wp2
    refine wp_region_later (by kernel_rfl) (by kernel_rfl) ?_
    repeat (quiet_step (refine Calls.later (mean_worth x _ hx)))
    refine wpQuiet_nil ?_
    intro w2 hw2
    obtain ⟨⟨w2, hx2⟩, rfl⟩ := hw2
    rw [wrap_i64_in HL.out]
    obtain ⟨hc2, hf2⟩ := (hx1.trans hx2).reads
    have hE : Ext w w2 := ((((((Ext.refl w).alloc _).alloc _).alloc _).alloc _).trans hx1).trans hx2
    have hR := hx1.trans hx2
    clear hc1 hf1 hx1 hx2 s0 s1 s2 s3
    by_cases hz : left - wrt x = 0
    · go_wp2_with fail
      refine (mean_opens x gout _ hx).mono ?_
      rintro e w3 ⟨rfl, hx3⟩
      clear hc2 hf2
      obtain ⟨hc2, hf2⟩ := (hR.trans hx3).reads
      replace hE := hE.trans hx3
      cases hg : opn gout x
      all_goals
        go_wp2
        refine bodyPost_ret (v := hitV (hitS gin gout left _ x)) (by simp [results, Try.results82, go_sem, hitS, hitV, *]) rfl ⟨rfl, ?_⟩
        refine (hE.setCell ?_ _).setCell ?_ _ <;> (simp; omega)
    · go_wp2
      all_goals
        refine bodyPost_ret (v := hitV (hitS gin gout left _ x)) (by simp [results, Try.results82, go_sem, hitS, hitV, *] <;> (have hn : ¬ 1 < left - wrt x := by omega) <;> simp [hn]) rfl ⟨rfl, ?_⟩
        refine (hE.setCell ?_ _).setCell ?_ _ <;> (simp; omega)
theorem mean_hit (start gin gout left : Int) (inn : Bool) (vb : Value) (x : Int) (w : World) (hx : I64 x) (hl : I64 (left - wrt x)) (hv : ∃ a n c, vb = .slice a n c) :
    Calls Try.prog 82 #[.agg #[.int .i64 start, .int .i64 gin, .int .i64 gout, vb], .agg #[.int .i64 left, .bool inn], .int .i64 x] w fun e w' => e = .returned (hitV (hitS gin gout left inn x)) ∧ Ext w w' := by
  cases h0 : x == 0
  · cases inn
    · cases ho : opn gin x
      · exact mean_hit_shut start gin gout left vb x w hx hv h0 ho
      · exact mean_hit_open start gin gout left false vb x w hx hl hv h0 (.inr ho)
    · exact mean_hit_open start gin gout left true vb x w hx hl hv h0 (.inl rfl)
  · obtain rfl : x = 0 := by simpa using h0
    exact mean_hit_miss start gin gout left inn vb w hv

/-- Whether a dart is at a finish: 1 or 0. -/
def fin (gin gout : Int) (beds : List Int) (left : Int) (inn : Bool) : Bool := beds.any fun b => (hitS gin gout left inn b).2.2 == 1
def finI (gin gout : Int) (beds : List Int) (left : Int) (inn : Bool) : Int := if fin gin gout beds left inn then 1 else 0
theorem finI_hit {gin gout : Int} {beds : List Int} {left : Int} {inn : Bool} (h : fin gin gout beds left inn = true) : finI gin gout beds left inn = 1 := by simp [finI, h]
theorem finI_miss {gin gout : Int} {beds : List Int} {left : Int} {inn : Bool} (h : fin gin gout beds left inn = false) : finI gin gout beds left inn = 0 := by simp [finI, h]
/-- Bounds under which a dart's sums do not wrap. -/
def Sane (left : Int) (beds : List Int) : Prop := ∀ b ∈ beds, I64 b ∧ I64 (left - wrt b)
set_option maxHeartbeats 1000000 in
theorem mean_fin1 (start gin gout left : Int) (inn : Bool) (a : Option Addr) (n c : Nat) (x : Int) (bl bs : Nat) (w : World) (hx : I64 x) (hl : I64 (left - wrt x))
    (c0 : w.cell? ⟨bl, 0, none⟩ = some (.int .i64 start)) (c1 : w.cell? ⟨bl, 1, none⟩ = some (.int .i64 gin)) (c2 : w.cell? ⟨bl, 2, none⟩ = some (.int .i64 gout)) (c3 : w.cell? ⟨bl, 3, none⟩ = some (.slice a n c))
    (d0 : w.cell? ⟨bs, 0, none⟩ = some (.int .i64 left)) (d1 : w.cell? ⟨bs, 1, none⟩ = some (.bool inn)) :
    Calls Try.prog 97 #[.int .i64 x, .pointer (some ⟨bl, 0, none⟩), .pointer (some ⟨bs, 0, none⟩)] w fun e w' => e = .returned (.bool ((hitS gin gout left inn x).2.2 == 1)) ∧ Ext w w' := by
  go_enter Try.func97, Try.ntmps97
  go_wp2_with fail
  refine (mean_hit start gin gout left inn _ x _ hx hl ⟨a, n, c, rfl⟩).mono ?_
  rintro e w1 ⟨rfl, hx1⟩
  unfold hitV
  go_wp2
  go_ret
  exact ⟨rfl, hx1.alloc _⟩
theorem enters_fin1 : Enters Try.prog 97 := enters_of Try.func97 (by kernel_rfl) rfl
set_option maxHeartbeats 1000000 in
theorem mean_isFinish (start gin gout left : Int) (inn : Bool) (beds : List Int) (a : Option Addr) (c : Nat) (w : World) (ha : CellsAt w .i64 a beds) (hb : beds.length ≤ 9223372036854775807) (hs : Sane left beds) :
    Calls Try.prog 80 #[.agg #[.int .i64 start, .int .i64 gin, .int .i64 gout, .slice a beds.length c], .agg #[.int .i64 left, .bool inn]] w fun e w' => e = .returned (.int .i64 (finI gin gout beds left inn)) ∧ Ext w w' := by
  go_enter Try.func80, Try.ntmps80
  go_wp2_with fail
  have hx0 : Ext w ((w.alloc (.cells #[.int .i64 start, .int .i64 gin, .int .i64 gout, .slice a beds.length c] 101)).alloc (.cells #[.int .i64 left, .bool inn] 119)) := ((Ext.refl w).alloc _).alloc _
  refine (containsFunc_b 97 _ enters_fin1 (fun b => (hitS gin gout left inn b).2.2 == 1) beds a c _ (by exact ha.ext hx0) hb (by
    exact fun x hx w1 hx1 => mean_fin1 start gin gout left inn a beds.length c x _ _ w1 (hs x hx).1 (hs x hx).2 (hx1.cell (by simp [go_sem])) (hx1.cell (by simp [go_sem])) (hx1.cell (by simp [go_sem])) (hx1.cell (by simp [go_sem])) (hx1.cell (by simp [go_sem])) (hx1.cell (by simp [go_sem])))).mono ?_
  rintro e w1 ⟨rfl, hx1⟩
  cases hf : fin gin gout beds left inn
  all_goals
    unfold fin at hf
    rw [hf]
    go_wp2
    go_ret
  · exact ⟨ret_int (finI_miss hf).symm, hx0.trans hx1⟩
  · exact ⟨ret_int (finI_hit hf).symm, hx0.trans hx1⟩
end Go.Proofs.Ytmopadnkjlodnaa
