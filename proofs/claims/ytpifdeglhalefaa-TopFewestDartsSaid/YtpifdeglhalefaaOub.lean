/-
  Package out: whether a bed is one; whether a list of beds is valid.
-/
import Derived.Test.YtpifdeglhalefaaBeds
import Derived.Test.YtpifdeglhalefaaSlicesI
namespace Go.Proofs.Ytpifdeglhalefaa
open Go.RowKit
attribute [local go_sem] Later.cell Later.frozen

theorem out_factor (b : Int) (w : World) (hb : I64 b) : Calls Try.prog 112 #[.agg #[.int .i64 b]] w fun e w' => e = .returned (.int .i64 (fct b)) ∧ Ext w w' := by
  go_enter Try.func112, Try.ntmps112
  go_wp2
  go_ret
  exact ⟨ret_int (wrap_fct hb), (Ext.refl w).alloc _⟩
theorem out_number (b : Int) (w : World) : Calls Try.prog 113 #[.agg #[.int .i64 b]] w fun e w' => e = .returned (.int .i64 (nmb b)) ∧ Ext w w' := by
  go_enter Try.func113, Try.ntmps113
  go_wp2
  go_ret
  exact ⟨rfl, (Ext.refl w).alloc _⟩
theorem out_worth (b : Int) (w : World) (hb : I64 b) : Calls Try.prog 98 #[.agg #[.int .i64 b]] w fun e w' => e = .returned (.int .i64 (wrt b)) ∧ Ext w w' := by
  go_enter Try.func98, Try.ntmps98
  go_wp2
  refine wp_region_later (by kernel_rfl) (by kernel_rfl) ?_
  repeat (quiet_step (first | (refine Calls.later (out_factor _ _ hb)) | (refine Calls.later (out_number _ _))))
  refine wpQuiet_nil ?_
  rintro _ ⟨⟨w1, hx1⟩, rfl⟩
  go_wp2
  go_ret
  exact ⟨ret_int (wrap_wrt hb), ((Ext.refl w).alloc _).trans hx1⟩
theorem out_within1 (n least most : Int) (al am : Addr) (w : World) (h1 : w.cell? al = some (.int .i64 least)) (h2 : w.cell? am = some (.int .i64 most)) :
    Calls Try.prog 97 #[.int .i64 n, .pointer (some al), .pointer (some am)] w fun e w' => e = .returned (.bool (out1 least most n)) ∧ Ext w w' := by
  go_enter Try.func97, Try.ntmps97
  go_wp2
  all_goals (go_ret; exact ⟨ret_bool (by simp [out1, *]), Ext.refl w⟩)
theorem enters_within1 : Enters Try.prog 97 := enters_of Try.func97 (by kernel_rfl) rfl
theorem out_within (least most : Int) (l : List Int) (a : Option Addr) (c : Nat) (w : World) (hl : l.length ≤ 9223372036854775807) (ha : CellsAt w .i64 a l) :
    Calls Try.prog 67 #[.int .i64 least, .int .i64 most, .slice a l.length c] w fun e w' => e = .returned (.bool (ins least most l)) ∧ Ext w w' := by
  go_enter Try.func67, Try.ntmps67
  go_wp2_with fail
  have hx : Ext w ((w.alloc (.cells #[.int .i64 least] 3)).alloc (.cells #[.int .i64 most] 3)) := ((Ext.refl w).alloc _).alloc _
  refine (containsFunc_i 97 _ enters_within1 (out1 least most) l a c _ (by exact ha.ext hx) hl (by exact fun x _ w1 hx1 => out_within1 x least most _ _ w1 (hx1.cell (by simp [go_sem])) (hx1.cell (by simp [go_sem])))).mono ?_
  rintro e w1 ⟨rfl, hx1⟩
  go_wp2
  go_ret
  exact ⟨rfl, hx.trans hx1⟩
/-- Whether a bed opens a gate. -/
def opnO (g b : Int) : Bool := if g = 1 then fct b == 2 else if g = 2 then decide (2 ≤ fct b) else true
theorem out_opens (b g : Int) (w : World) (hb : I64 b) : Calls Try.prog 99 #[.agg #[.int .i64 b], .int .i64 g] w fun e w' => e = .returned (.bool (opnO g b)) ∧ Ext w w' := by
  by_cases h1 : g = 1
  · subst h1
    go_enter Try.func99, Try.ntmps99
    go_wp2_with fail
    refine (out_factor _ _ hb).mono ?_
    rintro e w1 ⟨rfl, hx1⟩
    go_wp2
    all_goals (go_ret; exact ⟨ret_bool (by simp [opnO, *]), ((Ext.refl w).alloc _).trans hx1⟩)
  by_cases h2 : g = 2
  · subst h2
    go_enter Try.func99, Try.ntmps99
    go_wp2_with fail
    refine (out_factor _ _ hb).mono ?_
    rintro e w1 ⟨rfl, hx1⟩
    go_wp2
    all_goals (go_ret; exact ⟨ret_bool (by simp [opnO, *]), ((Ext.refl w).alloc _).trans hx1⟩)
  · have e1 : (g == 1) = false := by simpa using h1
    have e2 : (g == 2) = false := by simpa using h2
    go_enter Try.func99, Try.ntmps99
    go_wp2
    all_goals (go_ret; exact ⟨ret_bool (by simp [opnO, *]), (Ext.refl w).alloc _⟩)
theorem insO_one {a b x : Int} : ins a b [x] = true ↔ a ≤ x ∧ x ≤ b := by
  unfold ins out1
  simp
theorem out_isGate (g : Int) (w : World) : Calls Try.prog 73 #[.int .i64 g] w fun e w' => e = .returned (.bool (ins 0 2 [g])) ∧ Ext w w' := by
  by_cases h1 : 0 ≤ g
  · by_cases h2 : g ≤ 2
    · have e : ins 0 2 [g] = true := insO_one.2 ⟨h1, h2⟩
      go_enter Try.func73, Try.ntmps73
      go_wp2
      all_goals (go_ret; exact ⟨ret_bool (by simp [*]), Ext.refl w⟩)
    · have e : ins 0 2 [g] = false := by rw [Bool.eq_false_iff, Ne, insO_one]; omega
      go_enter Try.func73, Try.ntmps73
      go_wp2
      all_goals (go_ret; exact ⟨ret_bool (by simp [*]), Ext.refl w⟩)
  · have e : ins 0 2 [g] = false := by rw [Bool.eq_false_iff, Ne, insO_one]; omega
    go_enter Try.func73, Try.ntmps73
    go_wp2
    all_goals (go_ret; exact ⟨ret_bool (by simp [*]), Ext.refl w⟩)
end Go.Proofs.Ytpifdeglhalefaa
namespace Go.Proofs.Ytpifdeglhalefaa
open Go.RowKit
attribute [local go_sem] Later.cell Later.frozen

theorem out_within_1 (lo hi x : Int) (w : World) (n : Nat) (hn : n = w.heap.size) :
    Calls Try.prog 67 #[.int .i64 lo, .int .i64 hi, .slice (some ⟨n, 0, none⟩) 1 1] (w.alloc (.cells #[.int .i64 x] 3)) fun e w' => e = .returned (.bool (ins lo hi [x])) ∧ Ext w w' :=
  (out_within lo hi [x] _ 1 _ (by simp) (CellsAt.one w x _ hn)).mono fun _ _ ⟨he, hx⟩ => ⟨he, ((Ext.refl w).alloc _).trans hx⟩
theorem out_within_2 (lo hi x y : Int) (w : World) (n : Nat) (hn : n = w.heap.size) :
    Calls Try.prog 67 #[.int .i64 lo, .int .i64 hi, .slice (some ⟨n, 0, none⟩) 2 2] (w.alloc (.cells #[.int .i64 x, .int .i64 y] 3)) fun e w' => e = .returned (.bool (ins lo hi [x, y])) ∧ Ext w w' :=
  (out_within lo hi [x, y] _ 2 _ (by simp) (CellsAt.two w x y _ hn)).mono fun _ _ ⟨he, hx⟩ => ⟨he, ((Ext.refl w).alloc _).trans hx⟩

set_option maxHeartbeats 400000 in
theorem out_isBed (b : Int) (w : World) (hb : I64 b) : Calls Try.prog 100 #[.agg #[.int .i64 b]] w fun e w' => e = .returned (.bool (isBedB b)) ∧ Ext w w' := by
  cases h1 : b == 125
  · cases h2 : b == 225
    · go_enter Try.func100, Try.ntmps100
      go_wp2_with fail
      refine (out_factor _ _ hb).mono ?_
      rintro e w1 ⟨rfl, hx1⟩
      obtain ⟨hc1, hf1⟩ := hx1.reads
      go_wp2_with fail
      refine (out_within_1 _ _ _ _ _ (by simp)).mono ?_
      rintro e w2 ⟨rfl, hx2⟩
      obtain ⟨hc2, hf2⟩ := (hx1.trans hx2).reads
      clear hc1 hf1
      cases h3 : ins 1 4 [fct b]
      · go_wp2
        go_ret
        exact ⟨ret_bool (by simp [isBedB, *]), ((Ext.refl w).alloc _).trans (hx1.trans hx2)⟩
      · go_wp2_with fail
        refine (out_number _ _).mono ?_
        rintro e w3 ⟨rfl, hx3⟩
        go_wp2_with fail
        refine (out_within_1 _ _ _ _ _ (by simp)).mono ?_
        rintro e w4 ⟨rfl, hx4⟩
        go_wp2
        go_ret
        exact ⟨ret_bool (by simp [isBedB, *]), ((Ext.refl w).alloc _).trans (((hx1.trans hx2).trans hx3).trans hx4)⟩
    · obtain rfl : b = 225 := by simpa using h2
      go_enter Try.func100, Try.ntmps100
      go_wp2
      go_ret
      exact ⟨ret_bool (by simp [isBedB]), (Ext.refl w).alloc _⟩
  · obtain rfl : b = 125 := by simpa using h1
    go_enter Try.func100, Try.ntmps100
    go_wp2
    go_ret
    exact ⟨ret_bool (by simp [isBedB]), (Ext.refl w).alloc _⟩

/-- Each bed is one, and each is greater than the one before. -/
def bedsB : List Int → Bool
  | [] => true
  | [x] => isBedB x
  | x :: y :: l => isBedB x && decide (x < y) && bedsB (y :: l)
/-- Whether a list of beds is valid. -/
def areB (beds : List Int) : Bool := bedsB beds && ins 1 82 [(beds.length : Int)]
/-- So far, as the loop goes: of the first k beds each is one and greater than the one before. -/
def bedsTo (l : List Int) (k : Nat) : Prop := ∀ i, (h : i < l.length) → i < k → isBedB l[i] = true ∧ ∀ h0 : 0 < i, l[i - 1] < l[i]
theorem bedsB_iff (l : List Int) : bedsB l = true ↔ bedsTo l l.length := by
  induction l with
  | nil => simp [bedsB, bedsTo]
  | cons x l ih =>
    cases l with
    | nil => simp only [bedsB, bedsTo]; constructor
             · intro h i hi _; obtain rfl : i = 0 := by simpa using hi
               exact ⟨h, by omega⟩
             · intro h; exact (h 0 (by simp) (by simp)).1
    | cons y l =>
      simp only [bedsB, Bool.and_eq_true, decide_eq_true_eq, ih]
      constructor
      · rintro ⟨⟨h1, h2⟩, h3⟩ i hi hk
        match i, hi, hk with
        | 0, hi, hk => exact ⟨h1, by omega⟩
        | 1, hi, hk => exact ⟨(h3 0 (by simp) (by simp)).1, fun _ => h2⟩
        | i + 2, hi, hk =>
          have := h3 (i + 1) (by simpa using hi) (by simpa using hk)
          exact ⟨this.1, fun _ => this.2 (by omega)⟩
      · intro h
        refine ⟨⟨(h 0 (by simp) (by simp)).1, (h 1 (by simp) (by simp)).2 (by omega)⟩, fun i hi hk => ?_⟩
        have := h (i + 1) (by simpa using hi) (by simpa using hk)
        refine ⟨this.1, fun h0 => ?_⟩
        have h2 := this.2 (by omega)
        cases i with
        | zero => omega
        | succ i => exact h2
theorem bedsB_false {l : List Int} {k : Nat} (h : k < l.length) (hb : isBedB l[k] = false ∨ ∃ h0 : 0 < k, l[k] ≤ l[k - 1]) : bedsB l = false := by
  rw [Bool.eq_false_iff, Ne, bedsB_iff]
  intro hh
  have := hh k h h
  rcases hb with hb | ⟨h0, hb⟩
  · rw [this.1] at hb; cases hb
  · have := this.2 h0; omega
theorem bedsTo_succ {l : List Int} {k : Nat} (h : bedsTo l k) (hk : k < l.length) (hb : isBedB l[k] = true) (hl : ∀ h0 : 0 < k, l[k - 1] < l[k]) : bedsTo l (k + 1) := fun i hi hik => by
  rcases Nat.lt_or_ge i k with h' | h'
  · exact h i hi h'
  · obtain rfl : i = k := by omega
    exact ⟨hb, hl⟩
set_option maxHeartbeats 1000000 in
theorem out_areBeds (beds : List Int) (a : Option Addr) (c : Nat) (w : World) (ha : CellsAt w .i64 a beds) (hl : beds.length ≤ 9223372036854775807) (hw : ∀ b ∈ beds, I64 b) :
    Calls Try.prog 72 #[.slice a beds.length c] w fun e w' => e = .returned (.bool (areB beds)) ∧ Ext w w' := by
  go_enter Try.func72, Try.ntmps72
  go_wp2
  go_loopw [7] (fun i wr => ∃ k : Nat, k ≤ beds.length ∧ i = .int .i64 k ∧ bedsTo beds k ∧ Ext w wr) (fun i _ => beds.length - (intOf i).toNat)
  case atStart => exact ⟨0, Nat.zero_le _, rfl, fun i _ h => absurd h (by omega), Ext.refl w⟩
  case round =>
    obtain ⟨k, hk, rfl, hall, hx⟩ := hrel
    by_cases hlt : k < beds.length
    · obtain ⟨b, off, rfl, hc0⟩ := ha k hlt
      have hc := hx.cell hc0
      have hp : 0 < k → wr.cell? ⟨b, off + (k - 1), none⟩ = some (.int .i64 beds[k - 1]) := fun h0 => by
        obtain ⟨b', o', e, h'⟩ := ha (k - 1) (by omega)
        cases e; exact hx.cell h'
      have H := Lib.hid hall
      clear hall ha hc0
      go_wp2_with fail
      refine (out_isBed _ _ (hw _ (List.getElem_mem hlt))).mono ?_
      rintro e w1 ⟨rfl, hx1⟩
      cases hib : isBedB beds[k]
      · go_wp2
        go_ret
        exact ⟨ret_bool (by simp [areB, bedsB_false hlt (.inl hib)]), hx.trans hx1⟩
      · by_cases h0 : 0 < k
        · replace hp := hx1.cell (hp h0)
          by_cases hge : beds[k] ≤ beds[k - 1]
          · go_wp2
            go_ret
            exact ⟨ret_bool (by simp [areB, bedsB_false hlt (.inr ⟨h0, hge⟩)]), hx.trans hx1⟩
          · go_wp2
            go_roundw
            case rel => exact ⟨k + 1, by omega, by go_num, bedsTo_succ H.out hlt hib (fun _ => by omega), hx.trans hx1⟩
            case measure => simp [intOf]; omega
        · clear hp
          go_wp2
          go_roundw
          case rel => exact ⟨k + 1, by omega, by go_num, bedsTo_succ H.out hlt hib (fun h => absurd h h0), hx.trans hx1⟩
          case measure => simp [intOf]; omega
    · obtain rfl : k = beds.length := by omega
      have hv := (bedsB_iff beds).2 hall
      clear hall
      have HV := Lib.hid hv
      clear hv
      go_wp2_with fail
      refine (out_within_1 _ _ _ _ _ (by simp)).mono ?_
      rintro e w1 ⟨rfl, hx1⟩
      go_wp2
      go_ret
      exact ⟨ret_bool (by simp [areB, HV.out]), hx.trans hx1⟩
end Go.Proofs.Ytpifdeglhalefaa
