/-
  Package leg: Visit.
-/
import Derived.Test.YtpifdeglhalefaaSlicesI
import Derived.Test.YtpifdeglhalefaaBeds
import Derived.Test.YtpifdeglhalefaaSen
import Derived.BigQuiet
import Derived.Test.YtpifdeglhalefaaRcj
import Derived.Test.YtpifdeglhalefaaBoB
namespace Go.Proofs.Ytpifdeglhalefaa
open Go.RowKit

theorem index_b (v : Int) (xs : List Int) (a : Option Addr) (c : Nat) (w : World) (ha : CellsAt w .i64 a xs) (hl : xs.length ≤ 9223372036854775807) :
    Calls Try.prog 90 #[.slice a xs.length c, .int .i64 v] w fun e w' => e = .returned (.int .i64 (idx (v == ·) xs)) ∧ Ext w w' := by
  go_enter Try.func90, Try.ntmps90
  go_wp2
  go_loop [8] (fun i => ∃ k : Nat, k ≤ xs.length ∧ i = .int .i64 k ∧ (∀ j, (h : j < xs.length) → j < k → (v == xs[j]) = false)) (fun i => xs.length - (intOf i).toNat)
  case atStart => exact ⟨0, Nat.zero_le _, rfl, by omega⟩
  case round =>
    obtain ⟨k, hk, rfl, hall⟩ := hrel
    by_cases hlt : k < xs.length
    · obtain ⟨b, off, rfl, hc0⟩ := ha k hlt
      have H := Lib.hid hall
      clear hall ha
      cases hp : v == xs[k]
      · go_wp2
        go_round
        case rel => exact ⟨k + 1, by omega, by go_num, fun j hj hjk => by rcases Nat.lt_or_ge j k with h | h; exact H.out j hj h; obtain rfl : j = k := by omega
                                                                          exact hp⟩
        case measure => simp [intOf]; omega
      · go_wp2
        go_ret
        exact ⟨ret_int (idx_hit (v == ·) xs k hlt hp H.out).symm, Ext.refl w⟩
    · go_wp2
      go_ret
      exact ⟨ret_int (idx_none (v == ·) xs fun j hj => hall j hj (by omega)).symm, Ext.refl w⟩
theorem contains_b (v : Int) (xs : List Int) (a : Option Addr) (c : Nat) (w : World) (ha : CellsAt w .i64 a xs) (hl : xs.length ≤ 9223372036854775807) :
    Calls Try.prog 87 #[.slice a xs.length c, .int .i64 v] w fun e w' => e = .returned (.bool (xs.any (v == ·))) ∧ Ext w w' := by
  go_enter Try.func87, Try.ntmps87
  go_wp2_with fail
  refine (index_b v xs a c w ha hl).mono ?_
  rintro e w1 ⟨rfl, hx⟩
  go_wp2
  go_ret
  exact ⟨ret_bool (idx_any (v == ·) xs), hx⟩
end Go.Proofs.Ytpifdeglhalefaa
namespace Go.Proofs.Ytpifdeglhalefaa
open Go.RowKit
attribute [local go_sem] Later.cell Later.frozen

theorem leg_within1 (n least most : Int) (al am : Addr) (w : World) (h1 : w.cell? al = some (.int .i64 least)) (h2 : w.cell? am = some (.int .i64 most)) :
    Calls Try.prog 56 #[.int .i64 n, .pointer (some al), .pointer (some am)] w fun e w' => e = .returned (.bool (out1 least most n)) ∧ Ext w w' := by
  go_enter Try.func56, Try.ntmps56
  go_wp2
  all_goals (go_ret; exact ⟨ret_bool (by simp [out1, *]), Ext.refl w⟩)
theorem enters_legWithin1 : Enters Try.prog 56 := enters_of Try.func56 (by kernel_rfl) rfl
theorem leg_within (least most : Int) (l : List Int) (a : Option Addr) (c : Nat) (w : World) (hl : l.length ≤ 9223372036854775807) (ha : CellsAt w .i64 a l) :
    Calls Try.prog 31 #[.int .i64 least, .int .i64 most, .slice a l.length c] w fun e w' => e = .returned (.bool (ins least most l)) ∧ Ext w w' := by
  go_enter Try.func31, Try.ntmps31
  go_wp2_with fail
  have hx : Ext w ((w.alloc (.cells #[.int .i64 least] 3)).alloc (.cells #[.int .i64 most] 3)) := ((Ext.refl w).alloc _).alloc _
  refine (containsFunc_i 56 _ enters_legWithin1 (out1 least most) l a c _ (by exact ha.ext hx) hl (by exact fun x _ w1 hx1 => leg_within1 x least most _ _ w1 (hx1.cell (by simp [go_sem])) (hx1.cell (by simp [go_sem])))).mono ?_
  rintro e w1 ⟨rfl, hx1⟩
  go_wp2
  go_ret
  exact ⟨rfl, hx.trans hx1⟩
theorem leg_within_1 (lo hi x : Int) (w : World) (n : Nat) (hn : n = w.heap.size) :
    Calls Try.prog 31 #[.int .i64 lo, .int .i64 hi, .slice (some ⟨n, 0, none⟩) 1 1] (w.alloc (.cells #[.int .i64 x] 3)) fun e w' => e = .returned (.bool (ins lo hi [x])) ∧ Ext w w' :=
  (leg_within lo hi [x] _ 1 _ (by simp) (CellsAt.one w x _ hn)).mono fun _ _ ⟨he, hx⟩ => ⟨he, ((Ext.refl w).alloc _).trans hx⟩

theorem dart_factor (b : Int) (w : World) (hb : I64 b) : Calls Try.prog 88 #[.agg #[.int .i64 b]] w fun e w' => e = .returned (.int .i64 (fct b)) ∧ Ext w w' := by
  go_enter Try.func88, Try.ntmps88
  go_wp2
  go_ret
  exact ⟨ret_int (wrap_fct hb), (Ext.refl w).alloc _⟩
theorem dart_number (b : Int) (w : World) : Calls Try.prog 89 #[.agg #[.int .i64 b]] w fun e w' => e = .returned (.int .i64 (nmb b)) ∧ Ext w w' := by
  go_enter Try.func89, Try.ntmps89
  go_wp2
  go_ret
  exact ⟨rfl, (Ext.refl w).alloc _⟩
theorem dart_worth (b : Int) (w : World) (hb : I64 b) : Calls Try.prog 109 #[.agg #[.int .i64 b]] w fun e w' => e = .returned (.int .i64 (wrt b)) ∧ Ext w w' := by
  go_enter Try.func109, Try.ntmps109
  go_wp2
  refine wp_region_later (by kernel_rfl) (by kernel_rfl) ?_
  repeat (quiet_step (first | (refine Calls.later (dart_factor _ _ hb)) | (refine Calls.later (dart_number _ _))))
  refine wpQuiet_nil ?_
  rintro _ ⟨⟨w1, hx1⟩, rfl⟩
  go_wp2
  go_ret
  exact ⟨ret_int (wrap_wrt hb), ((Ext.refl w).alloc _).trans hx1⟩
theorem leg_isGate (g : Int) (w : World) : Calls Try.prog 91 #[.int .i64 g] w fun e w' => e = .returned (.bool (ins 0 2 [g])) ∧ Ext w w' := by
  go_enter Try.func91, Try.ntmps91
  go_wp2_with fail
  refine (leg_within_1 _ _ _ _ _ (by simp)).mono ?_
  rintro e w1 ⟨rfl, hx1⟩
  go_wp2
  go_ret
  exact ⟨rfl, hx1⟩
/-- Whether the laws of a player are valid. -/
def cntB (start gin gout : Int) : Bool := ins 2 1001 [start] && (ins 0 2 [gin] && ins 0 2 [gout])
theorem leg_isCount (start gin gout : Int) (w : World) : Calls Try.prog 62 #[.agg #[.int .i64 start, .int .i64 gin, .int .i64 gout]] w fun e w' => e = .returned (.bool (cntB start gin gout)) ∧ Ext w w' := by
  go_enter Try.func62, Try.ntmps62
  go_wp2_with fail
  refine (leg_within_1 _ _ _ _ _ (by simp)).mono ?_
  rintro e w1 ⟨rfl, hx1⟩
  have hx := ((Ext.refl w).alloc (.cells #[.int .i64 start, .int .i64 gin, .int .i64 gout] 56)).trans hx1
  cases h1 : ins 2 1001 [start]
  · go_wp2
    go_ret
    exact ⟨ret_bool (by simp [cntB, h1]), hx⟩
  · obtain ⟨hc1, hf1⟩ := hx1.reads
    go_wp2_with fail
    refine (leg_isGate _ _).mono ?_
    rintro e w2 ⟨rfl, hx2⟩
    clear hc1 hf1
    obtain ⟨hc2, hf2⟩ := (hx1.trans hx2).reads
    cases h2 : ins 0 2 [gin]
    · go_wp2
      go_ret
      exact ⟨ret_bool (by simp [cntB, h2]), hx.trans hx2⟩
    · go_wp2_with fail
      refine (leg_isGate _ _).mono ?_
      rintro e w3 ⟨rfl, hx3⟩
      go_wp2
      go_ret
      exact ⟨ret_bool (by simp [cntB, h1, h2]), (hx.trans hx2).trans hx3⟩
/-- Whether a dart is valid, a miss as well. -/
def validB (b : Int) : Bool := [0, 125, 225].any (b == ·) || (ins 1 4 [fct b] && ins 1 20 [nmb b])
theorem dart_isValid (b : Int) (w : World) (hb : I64 b) : Calls Try.prog 58 #[.agg #[.int .i64 b]] w fun e w' => e = .returned (.bool (validB b)) ∧ Ext w w' := by
  go_enter Try.func58, Try.ntmps58
  go_wp2_with fail
  refine (contains_b b [0, 125, 225] _ 3 _ (by exact CellsAt.three _ 0 125 225 _ (by simp)) (by simp)).mono ?_
  rintro e w1 ⟨rfl, hx1⟩
  have hx0 : Ext (w.alloc (.cells #[.int .i64 b] 142)) w1 := ((Ext.refl _).alloc _).trans hx1
  cases h1 : [(0 : Int), 125, 225].any (b == ·)
  · obtain ⟨hc1, hf1⟩ := hx0.reads
    go_wp2_with fail
    refine (dart_factor _ _ hb).mono ?_
    rintro e w2 ⟨rfl, hx2⟩
    clear hc1 hf1
    obtain ⟨hc1, hf1⟩ := (hx0.trans hx2).reads
    go_wp2_with fail
    refine (leg_within_1 _ _ _ _ _ (by simp)).mono ?_
    rintro e w3 ⟨rfl, hx3⟩
    clear hc1 hf1
    have hx := (hx0.trans hx2).trans hx3
    obtain ⟨hc1, hf1⟩ := hx.reads
    cases h2 : ins 1 4 [fct b]
    · go_wp2
      go_ret
      exact ⟨ret_bool (by rw [validB, h1, h2]; rfl), ((Ext.refl w).alloc _).trans hx⟩
    · go_wp2_with fail
      refine (dart_number _ _).mono ?_
      rintro e w4 ⟨rfl, hx4⟩
      go_wp2_with fail
      refine (leg_within_1 _ _ _ _ _ (by simp)).mono ?_
      rintro e w5 ⟨rfl, hx5⟩
      go_wp2
      go_ret
      exact ⟨ret_bool (by rw [validB, h1, h2]; simp), ((Ext.refl w).alloc _).trans ((hx.trans hx4).trans hx5)⟩
  · go_wp2
    go_ret
    exact ⟨ret_bool (by rw [validB, h1]; rfl), ((Ext.refl w).alloc _).trans hx0⟩
/-- Whether a dart opens a gate. -/
def opn4 (g b : Int) : Bool := if g = 1 then ins 2 2 [fct b] else if g = 2 then ins 2 4 [fct b] else ins 1 4 [fct b]
theorem dart_opens (b g : Int) (w : World) (hb : I64 b) : Calls Try.prog 108 #[.agg #[.int .i64 b], .int .i64 g] w fun e w' => e = .returned (.bool (opn4 g b)) ∧ Ext w w' := by
  by_cases h1 : g = 1
  · subst h1
    go_enter Try.func108, Try.ntmps108
    go_wp2_with fail
    refine (dart_factor _ _ hb).mono ?_
    rintro e w1 ⟨rfl, hx1⟩
    go_wp2_with fail
    refine (leg_within_1 _ _ _ _ _ (by simp)).mono ?_
    rintro e w2 ⟨rfl, hx2⟩
    go_wp2
    go_ret
    exact ⟨ret_bool (by simp [opn4]), ((Ext.refl w).alloc _).trans (hx1.trans hx2)⟩
  by_cases h2 : g = 2
  · subst h2
    go_enter Try.func108, Try.ntmps108
    go_wp2_with fail
    refine (dart_factor _ _ hb).mono ?_
    rintro e w1 ⟨rfl, hx1⟩
    go_wp2_with fail
    refine (leg_within_1 _ _ _ _ _ (by simp)).mono ?_
    rintro e w2 ⟨rfl, hx2⟩
    go_wp2
    go_ret
    exact ⟨ret_bool (by simp [opn4]), ((Ext.refl w).alloc _).trans (hx1.trans hx2)⟩
  · have e1 : (g == 1) = false := by simpa using h1
    have e2 : (g == 2) = false := by simpa using h2
    go_enter Try.func108, Try.ntmps108
    go_wp2_with fail
    refine (dart_factor _ _ hb).mono ?_
    rintro e w1 ⟨rfl, hx1⟩
    go_wp2_with fail
    refine (leg_within_1 _ _ _ _ _ (by simp)).mono ?_
    rintro e w2 ⟨rfl, hx2⟩
    go_wp2
    go_ret
    exact ⟨ret_bool (by simp [opn4, h1, h2]), ((Ext.refl w).alloc _).trans (hx1.trans hx2)⟩
end Go.Proofs.Ytpifdeglhalefaa
namespace Go.Proofs.Ytpifdeglhalefaa
open Go.RowKit Go.BigFrame
attribute [local go_sem] Later.cell Later.frozen Lat.cell Lat.frozen

/-- A visit while it is thrown. -/
structure Thr where
  left : Int
  score : Int
  darts : Int
  inn : Bool
  bust : Bool
  won : Bool
  deriving DecidableEq
def Thr.cells (x : Thr) : List Value := [.int .i64 x.left, .int .i64 x.score, .int .i64 x.darts, .bool x.inn, .bool x.bust, .bool x.won]
def visC (start gin gout : Int) (x : Thr) : Array Value := #[.int .i64 start, .int .i64 gin, .int .i64 gout, .int .i64 x.left, .int .i64 x.score, .int .i64 x.darts, .bool x.inn, .bool x.bust, .bool x.won]
/-- Whether a visit is at its end. -/
def Thr.over (x : Thr) : Bool := x.darts == 3 || x.won || x.bust
theorem visit_isOver (start gin gout : Int) (x : Thr) (b : Nat) (w : World) (h : Blk w b (visC start gin gout x)) :
    Calls Try.prog 92 #[.pointer (some ⟨b, 0, none⟩)] w fun e w' => e = .returned (.bool x.over) ∧ w = w' := by
  have h5 := h.cell 5 (v := .int .i64 x.darts) rfl
  have h7 := h.cell 7 (v := .bool x.bust) rfl
  have h8 := h.cell 8 (v := .bool x.won) rfl
  unfold Thr.over
  cases e1 : x.darts == 3
  · cases e2 : x.won
    all_goals
      go_enter Try.func92, Try.ntmps92
      go_wp2
      go_ret
      exact ⟨ret_bool (by simp), rfl⟩
  · go_enter Try.func92, Try.ntmps92
    go_wp2
    go_ret
    exact ⟨ret_bool (by simp), rfl⟩
/-- What a dart does to a visit. -/
def Thr.hit (gin gout : Int) (x : Thr) (b : Int) : Thr :=
  if (b == 0) = true ∨ x.inn = false ∧ opn4 gin b = false then { x with darts := x.darts + 1 }
  else if (x.left - wrt b == 0 && opn4 gout b) = true then { x with darts := x.darts + 1, left := x.left - wrt b, inn := true, won := true, bust := false }
  else if (decide (x.left - wrt b < 2) && (x.left - wrt b != 1 || gout != 0)) = true then { x with darts := x.darts + 1, won := false, bust := true }
  else { x with darts := x.darts + 1, left := x.left - wrt b, inn := true, won := false, bust := false }
section
variable {w : World} {b : Nat} {start gin gout left score darts : Int} {inn bust won : Bool}
theorem vis_left (h : Blk w b (visC start gin gout ⟨left, score, darts, inn, bust, won⟩)) (v : Int) : Blk (w.setCell ⟨b, 3, none⟩ (.int .i64 v)) b (visC start gin gout ⟨v, score, darts, inn, bust, won⟩) := by simpa [visC] using h.set 3 (.int .i64 v)
theorem vis_score (h : Blk w b (visC start gin gout ⟨left, score, darts, inn, bust, won⟩)) (v : Int) : Blk (w.setCell ⟨b, 4, none⟩ (.int .i64 v)) b (visC start gin gout ⟨left, v, darts, inn, bust, won⟩) := by simpa [visC] using h.set 4 (.int .i64 v)
theorem vis_darts (h : Blk w b (visC start gin gout ⟨left, score, darts, inn, bust, won⟩)) (v : Int) : Blk (w.setCell ⟨b, 5, none⟩ (.int .i64 v)) b (visC start gin gout ⟨left, score, v, inn, bust, won⟩) := by simpa [visC] using h.set 5 (.int .i64 v)
theorem vis_inn (h : Blk w b (visC start gin gout ⟨left, score, darts, inn, bust, won⟩)) (v : Bool) : Blk (w.setCell ⟨b, 6, none⟩ (.bool v)) b (visC start gin gout ⟨left, score, darts, v, bust, won⟩) := by simpa [visC] using h.set 6 (.bool v)
theorem vis_bust (h : Blk w b (visC start gin gout ⟨left, score, darts, inn, bust, won⟩)) (v : Bool) : Blk (w.setCell ⟨b, 7, none⟩ (.bool v)) b (visC start gin gout ⟨left, score, darts, inn, v, won⟩) := by simpa [visC] using h.set 7 (.bool v)
theorem vis_won (h : Blk w b (visC start gin gout ⟨left, score, darts, inn, bust, won⟩)) (v : Bool) : Blk (w.setCell ⟨b, 8, none⟩ (.bool v)) b (visC start gin gout ⟨left, score, darts, inn, bust, v⟩) := by simpa [visC] using h.set 8 (.bool v)
end
/-- While 'Won' is written. -/
def HitG (start gin gout left score darts : Int) (inn bust p : Bool) (b : Nat) (L : Nat → Bool) (w : World) : Prop := ∃ v : Bool, Blk w b (visC start gin gout ⟨left, score, darts, inn, bust, v⟩) ∧ (L 15 = true → v = p)
set_option maxHeartbeats 1000000 in
theorem visit_hit_open (start gin gout left score darts : Int) (inn bust won : Bool) (d : Int) (b : Nat) (w : World) (hb : Blk w b (visC start gin gout ⟨left, score, darts, inn, bust, won⟩)) (hd : I64 d) (hl : I64 (left - wrt d)) (hc : -1000 ≤ darts ∧ darts ≤ 1000)
    (h0 : (d == 0) = false) (ho : inn = true ∨ opn4 gin d = true) (y : Thr) (hy : y = Thr.hit gin gout ⟨left, score, darts, inn, bust, won⟩ d) :
    Calls Try.prog 93 #[.pointer (some ⟨b, 0, none⟩), .agg #[.int .i64 d]] w fun e w' => e = .returned (.tuple #[]) ∧ Blk w' b (visC start gin gout y) ∧ Chg (· = b) w w' := by
  have HL := Lib.hid hl
  clear hl
  obtain ⟨n, hn⟩ : ∃ n, left - wrt d = n := ⟨_, rfl⟩
  have HX := Lib.hid hy
  clear hy
  have c1 := hb.cell 1 (v := .int .i64 gin) rfl
  have c2 := hb.cell 2 (v := .int .i64 gout) rfl
  have c3 := hb.cell 3 (v := .int .i64 left) rfl
  have c5 := hb.cell 5 (v := .int .i64 darts) rfl
  have c6 := hb.cell 6 (v := .bool inn) rfl
  have f5 := hb.frozen 5
  have hlt := hb.lt
  have hlt1 : b < w.heap.size + 1 := by omega
  cases inn
  case' false => replace ho : opn4 gin d = true := by simpa using ho
  case' true => clear ho
  all_goals
    go_enter Try.func93, Try.ntmps93
    go_wp2
    refine wp_region_later (by kernel_rfl) (by kernel_rfl) ?_
    repeat go_big_quiet_step (refine Calls.later (dart_opens d gin _ hd))
    refine wpQuiet_nil ?_
    intro w1 hw1
    obtain ⟨⟨w1, hx1⟩, rfl⟩ := hw1
    have hb1 : Blk w1 b (visC start gin gout ⟨left, score, darts + 1, _, bust, won⟩) := ((vis_darts hb (darts + 1)).alloc _).ext hx1
    have hB : w1.cell? ⟨w.heap.size, 0, none⟩ = some (.int .i64 d) := hx1.cell (by simp [go_sem, *])
    have hE : Chg (· = b) w w1 := ((Chg.setCell (S := (· = b)) (Chg.refl _ w) (.inr rfl) _).alloc _).ext' hx1
    have hs1 : w.heap.size < w1.heap.size := lt_of_cell hB
    clear c1 c2 c3 c5 c6 f5 hx1 hb
    have c1 := hb1.cell 1 (v := .int .i64 gin) rfl
    have c2 := hb1.cell 2 (v := .int .i64 gout) rfl
    have c3 := hb1.cell 3 (v := .int .i64 left) rfl
    have hlt2 : b < w1.heap.size := by omega
    clear hlt1
    go_wp2
    refine wp_region_later (by kernel_rfl) (by kernel_rfl) ?_
    repeat go_big_quiet_step (refine Calls.later (dart_worth d _ hd))
    have HL' : I64 n := by rw [← hn]; exact HL.out
    simp only [wrap64_in' HL']
    refine wpQuiet_nil ?_
    intro w2 hw2
    obtain ⟨⟨w2, hx2⟩, rfl⟩ := hw2
    have hb2 := hb1.ext hx2
    have hB2 := hx2.cell hB
    have hE2 := hE.ext' hx2
    have hs2 := lt_of_cell hB2
    have hlt3 := hb2.lt
    clear hb1 hB hE hs1 c1 c2 c3 hx2 hlt2
    have c2 := hb2.cell 2 (v := .int .i64 gout) rfl
    cases hz : n == 0
    case' true => cases hq : opn4 gout d
  all_goals
    go_wp2
    have Hb := Lib.hid hb2
    refine wp_region_lat (by kernel_rfl) (fun b' o => b' = b ∧ o = 8) (fun k => k == 15) (fun _ _ => True) (fun L _ w' => HitG start gin gout left score (darts + 1) _ bust (n == 0 && opn4 gout d) b L w')
      (by kernel_rfl) (fun k hk => by have : k = 15 := by simpa using hk
                                      subst this; decide) (fun L L' _ _ h ⟨v, hg, hl⟩ => ⟨v, hg, fun hl' => hl (by rw [← h 15 rfl]; exact hl')⟩) (fun L _ w' w'' ⟨v, hg, hl⟩ hx => ⟨v, hg.ext hx, hl⟩) (fun _ => undef) (fun _ _ => trivial) ⟨won, hb2.drew, fun h => by cases h⟩ ?_
    intro T hT hne u hu
    refine lx_next 15 (by rfl) (by decide) ?_
    dsimp only [List.take, List.drop]
    repeat go_big_quiet_step (refine Calls.lat hT (dart_opens d gout _ hd))
    refine wpQuiet_nil ?_
    refine lx_loud (by rfl) (by kernel_rfl) ?_ (fun K hK => ?_)
    · intro L w3 _ _ _ hC ⟨v, hv, _⟩
      obtain ⟨x, rfl⟩ := hC
      have hf := hv.frozen 8
      have hcc := hv.cell 8 (v := .bool v) rfl
      have hlt4 := hv.lt
      go_wp2
      exact ⟨⟨x.setCell (.inr ⟨rfl, rfl⟩) _, rfl⟩, _, vis_won hv _, fun _ => by simp [*]⟩
    refine hK _ ?_
    clear hK K
    refine lx_nil ?_
    intro x hG
    obtain ⟨v, hb3, hv⟩ := hG
    have hE3 := hE2.trans (x.chg.mono (T := (· = b)) (by rintro k _ ⟨o, rfl, _⟩; rfl))
    replace hv := hv rfl
    generalize hw3 : x.world = w3 at *
    rw [hz] at hv
    try rw [hq] at hv
    simp only [Bool.false_and, Bool.and_self, Bool.and_false] at hv
    subst hv
    have hlt4 := hb3.lt
    have f3 := hb3.frozen 3
    have f6 := hb3.frozen 6
    have f7 := hb3.frozen 7
    have c2 := hb3.cell 2 (v := .int .i64 gout) rfl
    have c3 := hb3.cell 3 (v := .int .i64 left) rfl
    have c6 := hb3.cell 6 (v := .bool _) rfl
    have c7 := hb3.cell 7 (v := .bool bust) rfl
    have c8 := hb3.cell 8 (v := .bool _) rfl
    clear hE2 hb2 hB2 hs2 hlt3 Hb hu hT hne hw3 x
  case' h.refine_2.true.true.h.refine_2.refine_2 | h.refine_2.h.refine_2.true.true.h.refine_2.refine_2 =>
    go_wp2
    refine bodyPost_end (results_none rfl _ _ _) rfl ?_
    rw [show y = ⟨n, score, darts + 1, true, false, true⟩ by rw [HX.out]; simp [Thr.hit, *]]
    exact ⟨rfl, vis_inn (vis_left (vis_bust hb3 _) _) _, ((hE3.setCell (.inr rfl) _).setCell (.inr rfl) _).setCell (.inr rfl) _⟩
  case' h.refine_2.true.false.h.refine_2.refine_2 | h.refine_2.h.refine_2.true.false.h.refine_2.refine_2 =>
    have e0 : n = 0 := by simpa using hz
    subst e0
    go_wp2
    refine bodyPost_end (results_none rfl _ _ _) rfl ?_
    rw [show y = ⟨left, score, darts + 1, _, true, false⟩ by rw [HX.out]; simp [Thr.hit, *]; rfl]
    exact ⟨rfl, vis_bust hb3 _, hE3.setCell (.inr rfl) _⟩
  all_goals
    cases e2 : decide (n < 2)
    case' true =>
      cases e1 : n != 1
      case' false => cases e3 : gout != 0
  all_goals
    have e2' := e2
    simp only [decide_eq_false_iff_not, decide_eq_true_eq] at e2'
    go_wp2
    refine bodyPost_end (results_none rfl _ _ _) rfl ?_
    first
      | (rw [show y = ⟨left, score, darts + 1, _, true, false⟩ by rw [HX.out]; simp [Thr.hit, *]; rfl]
         exact ⟨rfl, vis_bust hb3 _, hE3.setCell (.inr rfl) _⟩)
      | (rw [show y = ⟨n, score, darts + 1, true, false, false⟩ by rw [HX.out]; simp [Thr.hit, *]]
         exact ⟨rfl, vis_inn (vis_left (vis_bust hb3 _) _) _, ((hE3.setCell (.inr rfl) _).setCell (.inr rfl) _).setCell (.inr rfl) _⟩)
theorem visit_hit (start gin gout : Int) (x : Thr) (d : Int) (b : Nat) (w : World) (hb : Blk w b (visC start gin gout x)) (hd : I64 d) (hl : I64 (x.left - wrt d)) (hc : -1000 ≤ x.darts ∧ x.darts ≤ 1000) :
    Calls Try.prog 93 #[.pointer (some ⟨b, 0, none⟩), .agg #[.int .i64 d]] w fun e w' => e = .returned (.tuple #[]) ∧ Blk w' b (visC start gin gout (x.hit gin gout d)) ∧ Chg (· = b) w w' := by
  obtain ⟨left, score, darts, inn, bust, won⟩ := x
  cases h0 : d == 0
  case' false =>
    cases inn
    case' false => cases ho : opn4 gin d
  case false.true => exact visit_hit_open start gin gout left score darts true bust won d b w hb hd hl hc h0 (.inl rfl) _ rfl
  case false.false.true => exact visit_hit_open start gin gout left score darts false bust won d b w hb hd hl hc h0 (.inr ho) _ rfl
  all_goals
    have HL := Lib.hid hl
    clear hl
    have c1 := hb.cell 1 (v := .int .i64 gin) rfl
    have c5 := hb.cell 5 (v := .int .i64 darts) rfl
    have c6 := hb.cell 6 (v := .bool _) rfl
    have f5 := hb.frozen 5
    have hlt := hb.lt
    have hlt1 : b < w.heap.size + 1 := by omega
    replace hc : -1000 ≤ darts ∧ darts ≤ 1000 := hc
    go_enter Try.func93, Try.ntmps93
    go_wp2
    refine wp_region_later (by kernel_rfl) (by kernel_rfl) ?_
    repeat go_big_quiet_step (refine Calls.later (dart_opens d gin _ hd))
    refine wpQuiet_nil ?_
    intro w1 hw1
    obtain ⟨⟨w1, hx1⟩, rfl⟩ := hw1
    have hb1 := ((vis_darts hb (darts + 1)).alloc _).ext hx1
    have hE := ((Chg.setCell (S := (· = b)) (Chg.refl _ w) (.inr rfl) _).alloc _).ext' hx1
    go_wp2
    refine bodyPost_ret (by simp [results, Try.results93, go_sem]; try rfl) rfl ?_
    rw [show Thr.hit gin gout ⟨left, score, darts, _, bust, won⟩ d = ⟨left, score, darts + 1, _, bust, won⟩ by simp [Thr.hit, *]; rfl]
    exact ⟨rfl, hb1, hE⟩
end Go.Proofs.Ytpifdeglhalefaa
namespace Go.Proofs.Ytpifdeglhalefaa
open Go.RowKit
attribute [local go_sem] Later.cell Later.frozen

def Thr.zero : Thr := ⟨0, 0, 0, false, false, false⟩
def Thr.agg (x : Thr) : Value := .agg #[.int .i64 x.left, .int .i64 x.score, .int .i64 x.darts, .bool x.inn, .bool x.bust, .bool x.won]
/-- The darts of a visit, one by one: what it comes to, or the number of a dart and its error. -/
def thrW (gin gout : Int) : List Int → Int → Thr → Thr ⊕ (Int × Int)
  | [], _, x => .inl x
  | b :: l, i, x => if x.over = true then .inr (i, 32) else if validB b = false then .inr (i, 2) else thrW gin gout l (i + 1) (x.hit gin gout b)
/-- What becomes of a visit when all darts are thrown. -/
def Thr.end (inn : Bool) (left : Int) (x : Thr) : Thr × Int × Int :=
  if x.over = false then (.zero, -1, 31)
  else if x.bust = true then (⟨left, 0, x.darts, inn, x.bust, x.won⟩, -1, 0) else (⟨x.left, left - x.left, x.darts, x.inn, x.bust, x.won⟩, -1, 0)
def thrE (inn : Bool) (left : Int) : Thr ⊕ (Int × Int) → Thr × Int × Int
  | .inr (i, e) => (.zero, i, e)
  | .inl x => x.end inn left
def thr (gin gout : Int) (inn : Bool) (left : Int) (beds : List Int) : Thr × Int × Int := thrE inn left (thrW gin gout beds 0 ⟨left, 0, 0, inn, false, false⟩)
theorem wrt_bounds_valid {b : Int} (h : validB b = true) : 0 ≤ wrt b ∧ wrt b ≤ 80 := by
  unfold validB at h
  simp only [List.any_cons, List.any_nil, Bool.or_false, Bool.or_eq_true, beq_iff_eq, Bool.and_eq_true] at h
  rcases h with (rfl | rfl | rfl) | ⟨h1, h2⟩
  · decide
  · decide
  · decide
  · simp only [ins, out1, List.any_cons, List.any_nil, Bool.or_false, Bool.not_or, Bool.and_eq_true, Bool.not_eq_true', decide_eq_false_iff_not] at h1 h2
    unfold wrt
    have h3 : 0 ≤ fct b := by omega
    have h4 : 0 ≤ nmb b := by omega
    exact ⟨Int.mul_nonneg h3 h4, Int.le_trans (Int.mul_le_mul (by omega : fct b ≤ 4) (by omega : nmb b ≤ 20) h4 (by omega)) (by omega)⟩
theorem Thr.hit_left {gin gout : Int} {x : Thr} {b : Int} (hv : validB b = true) (h : 0 ≤ x.left ∧ x.left ≤ 1001) : 0 ≤ (x.hit gin gout b).left ∧ (x.hit gin gout b).left ≤ 1001 := by
  have := wrt_bounds_valid hv
  unfold Thr.hit
  split
  · exact h
  · split
    · rename_i h1; simp only [Bool.and_eq_true, beq_iff_eq] at h1; simp only; omega
    · split
      · exact h
      · rename_i h1
        simp only [Bool.and_eq_true, decide_eq_true_eq, Bool.or_eq_true, bne_iff_ne, not_and, not_or, Decidable.not_not] at h1
        simp only
        omega
theorem Thr.hit_darts {gin gout : Int} {x : Thr} {b : Int} : (x.hit gin gout b).darts = x.darts + 1 := by
  unfold Thr.hit; split <;> (try split) <;> (try split) <;> rfl
theorem Thr.over_darts {x : Thr} (h : x.over = false) : x.darts ≠ 3 := by
  unfold Thr.over at h; simp at h; exact h.1.1
/-- The cells of a block of six. -/
theorem Blk.six {w : World} {b : Nat} {v0 v1 v2 v3 v4 v5 : Value} (h : Blk w b #[v0, v1, v2, v3, v4, v5]) :
    (w.cell? ⟨b, 0, none⟩ = some v0 ∧ w.cell? ⟨b, 1, none⟩ = some v1 ∧ w.cell? ⟨b, 2, none⟩ = some v2 ∧ w.cell? ⟨b, 3, none⟩ = some v3 ∧ w.cell? ⟨b, 4, none⟩ = some v4 ∧ w.cell? ⟨b, 5, none⟩ = some v5) ∧ b < w.heap.size ∧
      (w.frozen? ⟨b, 0, none⟩ = false ∧ w.frozen? ⟨b, 1, none⟩ = false ∧ w.frozen? ⟨b, 2, none⟩ = false ∧ w.frozen? ⟨b, 3, none⟩ = false ∧ w.frozen? ⟨b, 4, none⟩ = false ∧ w.frozen? ⟨b, 5, none⟩ = false) :=
  ⟨⟨h.cell 0 rfl, h.cell 1 rfl, h.cell 2 rfl, h.cell 3 rfl, h.cell 4 rfl, h.cell 5 rfl⟩, h.lt, h.frozen 0, h.frozen 1, h.frozen 2, h.frozen 3, h.frozen 4, h.frozen 5⟩
/-- The cells of a visit. -/
theorem Blk.vis {w : World} {b : Nat} {start gin gout : Int} {x : Thr} (h : Blk w b (visC start gin gout x)) :
    (w.cell? ⟨b, 3, none⟩ = some (.int .i64 x.left) ∧ w.cell? ⟨b, 4, none⟩ = some (.int .i64 x.score) ∧ w.cell? ⟨b, 5, none⟩ = some (.int .i64 x.darts) ∧ w.cell? ⟨b, 6, none⟩ = some (.bool x.inn) ∧ w.cell? ⟨b, 7, none⟩ = some (.bool x.bust) ∧ w.cell? ⟨b, 8, none⟩ = some (.bool x.won)) ∧ b < w.heap.size ∧
      (w.frozen? ⟨b, 3, none⟩ = false ∧ w.frozen? ⟨b, 4, none⟩ = false ∧ w.frozen? ⟨b, 6, none⟩ = false) :=
  ⟨⟨h.cell 3 rfl, h.cell 4 rfl, h.cell 5 rfl, h.cell 6 rfl, h.cell 7 rfl, h.cell 8 rfl⟩, h.lt, h.frozen 3, h.frozen 4, h.frozen 6⟩
theorem ret_three {a a' b b' c c' : Value} (h1 : a = a') (h2 : b = b') (h3 : c = c') : Ending.returned (.tuple #[a, b, c]) = .returned (.tuple #[a', b', c']) := by rw [h1, h2, h3]
set_option maxHeartbeats 1000000 in
theorem leg_throw (start gin gout : Int) (inn : Bool) (left : Int) (beds : List Int) (a : Option Addr) (c : Nat) (w : World) (ha : CellsAt w .i64 a beds) (hb : ∀ x ∈ beds, I64 x) (hlen : beds.length ≤ 9223372036854775807) (hle : 0 ≤ left ∧ left ≤ 1001)
    (T : Thr × Int × Int) (hT : thr gin gout inn left beds = T) :
    Calls Try.prog 63 #[.agg #[.int .i64 start, .int .i64 gin, .int .i64 gout], .bool inn, .int .i64 left, .slice a beds.length c] w fun e w' => e = .returned (.tuple #[T.1.agg, .int .i64 T.2.1, .int .i64 T.2.2]) ∧ Ext w w' := by
  have HT := Lib.hid hT
  clear hT
  go_enter Try.func63, Try.ntmps63
  go_wp2
  have hA := Lib.hid ha
  have hB := Lib.hid hb
  clear ha hb
  go_loopw [21] (fun i wr => ∃ (k : Nat) (x : Thr), k ≤ beds.length ∧ i = .int .i64 k ∧ T = thrE inn left (thrW gin gout (beds.drop k) k x) ∧ (0 ≤ x.left ∧ x.left ≤ 1001) ∧ (0 ≤ x.darts ∧ x.darts ≤ 3) ∧
      Blk wr (w.heap.size + 2) (visC start gin gout x) ∧ Blk wr (w.heap.size + 1) #[.int .i64 0, .int .i64 0, .int .i64 0, .bool false, .bool false, .bool false] ∧ Ext w wr) (fun i _ => beds.length - (intOf i).toNat)
  case atStart =>
    exact ⟨0, ⟨left, 0, 0, inn, false, false⟩, Nat.zero_le _, rfl, HT.out.symm, hle, ⟨by show (0 : Int) ≤ 0; omega, by show (0 : Int) ≤ 3; omega⟩, Blk.at _ (by simp), (Blk.at _ (by simp)).alloc _, (((Ext.refl w).alloc _).alloc _).alloc _⟩
  case round =>
    obtain ⟨k, x, hk, rfl, hS, hxl, hxd, hV, hZ, hx⟩ := hrel
    have HS := Lib.hid hS
    clear hS HT
    by_cases hlt : k < beds.length
    · obtain ⟨b, off, rfl, hc0⟩ := hA.out k hlt
      have hc := hx.cell hc0
      have hbk := hB.out _ (List.getElem_mem hlt)
      have hdrop : beds.drop k = beds[k] :: beds.drop (k + 1) := by simp
      go_wp2_with fail
      refine (visit_isOver start gin gout x _ _ hV).mono ?_
      rintro e w1 ⟨rfl, rfl⟩
      cases ho : x.over
      · go_wp2_with fail
        refine (dart_isValid beds[k] _ hbk).mono ?_
        rintro e w2 ⟨rfl, hx2⟩
        have hZ2 := hZ.ext hx2
        have hV2 := hV.ext hx2
        have hE2 := hx.trans hx2
        clear hc hc0
        cases hv : validB beds[k]
        · obtain ⟨⟨z0, z1, z2, z3, z4, z5⟩, zs, f0, f1, f2, f3, f4, f5⟩ := hZ2.six
          clear hZ hZ2 hV hV2
          go_wp2
          refine bodyPost_ret (v := .tuple #[Thr.zero.agg, .int .i64 k, .int .i64 2]) (by simp [results, Try.results63, go_sem, Thr.zero, Thr.agg, *]) rfl ⟨?_, ?_⟩
          · rw [HS.out, hdrop]
            simp [thrW, thrE, ho, hv]
          · exact (((((hE2.setCell (by simp) _).setCell (by simp) _).setCell (by simp) _).setCell (by simp) _).setCell (by simp) _).setCell (by simp) _
        · have hw := wrt_bounds_valid hv
          go_wp2_with fail
          refine (visit_hit start gin gout x _ _ _ hV2 hbk ⟨by omega, by omega⟩ (by omega)).mono ?_
          rintro e w3 ⟨rfl, hV3, hC3⟩
          have hZ3 := hZ2.chg hC3 (by simp)
          have hE3 := Chg.to_ext hE2 hC3 (by rintro i rfl; omega)
          have := Thr.over_darts ho
          clear hV hV2 hZ hZ2 hC3
          go_wp2
          go_roundw
          case rel => exact ⟨k + 1, x.hit gin gout beds[k], by omega, by go_num, by rw [HS.out, hdrop]; simp [thrW, ho, hv], Thr.hit_left hv hxl, by rw [Thr.hit_darts]; omega, hV3, hZ3, hE3⟩
          case measure => simp [intOf]; omega
      · obtain ⟨⟨z0, z1, z2, z3, z4, z5⟩, zs, f0, f1, f2, f3, f4, f5⟩ := hZ.six
        clear hZ hV
        go_wp2
        refine bodyPost_ret (v := .tuple #[Thr.zero.agg, .int .i64 k, .int .i64 32]) (by simp [results, Try.results63, go_sem, Thr.zero, Thr.agg, *]) rfl ⟨?_, ?_⟩
        · rw [HS.out, hdrop]
          simp [thrW, thrE, ho]
        · exact (((((hx.setCell (by simp) _).setCell (by simp) _).setCell (by simp) _).setCell (by simp) _).setCell (by simp) _).setCell (by simp) _
    · obtain rfl : k = beds.length := by omega
      go_wp2_with fail
      refine (visit_isOver start gin gout x _ _ hV).mono ?_
      rintro e w1 ⟨rfl, rfl⟩
      obtain ⟨⟨z0, z1, z2, z3, z4, z5⟩, zs, f0, f1, f2, f3, f4, f5⟩ := hZ.six
      obtain ⟨⟨v3, v4, v5, v6, v7, v8⟩, vs, g3, g4, g6⟩ := hV.vis
      clear hZ hV
      cases ho : x.over
      · go_wp2
        refine bodyPost_ret (v := .tuple #[Thr.zero.agg, .int .i64 (-1), .int .i64 31]) (by simp [results, Try.results63, go_sem, Thr.zero, Thr.agg, *]) rfl ⟨?_, ?_⟩
        · rw [HS.out]
          simp [thrW, thrE, Thr.end, ho]
        · exact (((((hx.setCell (by simp) _).setCell (by simp) _).setCell (by simp) _).setCell (by simp) _).setCell (by simp) _).setCell (by simp) _
      · cases hbu : x.bust
        · go_wp2
          refine bodyPost_ret (v := .tuple #[Thr.agg ⟨x.left, left - x.left, x.darts, x.inn, false, x.won⟩, .int .i64 (-1), .int .i64 0]) (by simp [results, Try.results63, go_sem, Thr.agg, *]) rfl ⟨?_, ?_⟩
          · rw [HS.out]
            simp [thrW, thrE, Thr.end, ho, hbu]
          · exact ((((((hx.setCell (by simp <;> omega) _).setCell (by simp) _).setCell (by simp) _).setCell (by simp) _).setCell (by simp) _).setCell (by simp) _).setCell (by simp) _
        · go_wp2
          refine bodyPost_ret (v := .tuple #[Thr.agg ⟨left, 0, x.darts, inn, true, x.won⟩, .int .i64 (-1), .int .i64 0]) (by simp [results, Try.results63, go_sem, Thr.agg, *]) rfl ⟨?_, ?_⟩
          · rw [HS.out]
            simp [thrW, thrE, Thr.end, ho, hbu]
          · exact ((((((((hx.setCell (by simp <;> omega) _).setCell (by simp <;> omega) _).setCell (by simp <;> omega) _).setCell (by simp) _).setCell (by simp) _).setCell (by simp) _).setCell (by simp) _).setCell (by simp) _).setCell (by simp) _
end Go.Proofs.Ytpifdeglhalefaa
namespace Go.Proofs.Ytpifdeglhalefaa
open Go.RowKit
attribute [local go_sem] Later.cell Later.frozen

/-- The least that a player can have left. -/
def leastS (gout : Int) : Int := if gout = 0 then 1 else 2
/-- What a visit comes to, or its error. -/
def visS (start gin gout : Int) (inn : Bool) (left : Int) (beds : List Int) : Thr × Int :=
  if cntB start gin gout = false then (.zero, 2)
  else if ins (leastS gout) start [left] = false then (.zero, 3)
  else if inn = false ∧ (left != start) = true then (.zero, 3)
  else ((thr gin gout inn left beds).1, (thr gin gout inn left beds).2.2)
theorem cntB_start {start gin gout : Int} (h : cntB start gin gout = true) : (2 ≤ start ∧ start ≤ 1001) ∧ (0 ≤ gin ∧ gin ≤ 2) ∧ (0 ≤ gout ∧ gout ≤ 2) := by
  unfold cntB at h; simp only [Bool.and_eq_true, ins_one] at h; exact h
theorem ret_two {a a' b b' : Value} (h1 : a = a') (h2 : b = b') : Ending.returned (.tuple #[a, b]) = .returned (.tuple #[a', b']) := by rw [h1, h2]
theorem six_set {w : World} {b : Nat} {v0 v1 v2 v3 v4 v5 : Value} (h : Blk w b #[v0, v1, v2, v3, v4, v5]) (x0 x1 x2 x3 x4 x5 : Value) :
    Blk ((((((w.setCell ⟨b, 0, none⟩ x0).setCell ⟨b, 1, none⟩ x1).setCell ⟨b, 2, none⟩ x2).setCell ⟨b, 3, none⟩ x3).setCell ⟨b, 4, none⟩ x4).setCell ⟨b, 5, none⟩ x5) b #[x0, x1, x2, x3, x4, x5] :=
  (((((h.set 0 x0).set 1 x1).set 2 x2).set 3 x3).set 4 x4).set 5 x5
theorem six_ext {a w : World} (h : Ext a w) {b : Nat} (hb : a.heap.size ≤ b) (x0 x1 x2 x3 x4 x5 : Value) :
    Ext a ((((((w.setCell ⟨b, 0, none⟩ x0).setCell ⟨b, 1, none⟩ x1).setCell ⟨b, 2, none⟩ x2).setCell ⟨b, 3, none⟩ x3).setCell ⟨b, 4, none⟩ x4).setCell ⟨b, 5, none⟩ x5) :=
  (((((h.setCell hb x0).setCell hb x1).setCell hb x2).setCell hb x3).setCell hb x4).setCell hb x5
set_option maxHeartbeats 1000000 in
theorem leg_Visit (start gin gout : Int) (inn : Bool) (left : Int) (beds : List Int) (a : Option Addr) (c : Nat) (w : World) (ha : CellsAt w .i64 a beds) (hb : ∀ x ∈ beds, I64 x) (hlen : beds.length ≤ 9223372036854775807)
    (T : Thr × Int) (hT : visS start gin gout inn left beds = T) :
    Calls Try.prog 36 #[.agg #[.int .i64 start, .int .i64 gin, .int .i64 gout], .bool inn, .int .i64 left, .slice a beds.length c] w fun e w' => e = .returned (.tuple #[T.1.agg, .int .i64 T.2]) ∧ Ext w w' := by
  have HT := Lib.hid hT
  have hA := Lib.hid ha
  have hB := Lib.hid hb
  clear hT ha hb
  cases hg : gout == 0
  all_goals
    go_enter Try.func36, Try.ntmps36
    go_wp2_with fail
    refine (leg_isCount start gin gout _).mono ?_
    rintro e w1 ⟨rfl, hx1⟩
    have hb1 : Blk w1 w.heap.size #[.int .i64 start, .int .i64 gin, .int .i64 gout] := ((Blk.at _ (by simp)).alloc _).ext hx1
    have hz1 : Blk w1 (w.heap.size + 1) #[.int .i64 0, .int .i64 0, .int .i64 0, .bool false, .bool false, .bool false] := (Blk.at _ (by simp)).ext hx1
    have hE1 := (((Ext.refl w).alloc _).alloc _).trans hx1
    clear hx1
    cases hc : cntB start gin gout
    · obtain ⟨⟨z0, z1, z2, z3, z4, z5⟩, zs, f0, f1, f2, f3, f4, f5⟩ := hz1.six
      clear hz1 hb1
      go_wp2
      refine bodyPost_ret (v := .tuple #[Thr.zero.agg, .int .i64 2]) (by simp [results, Try.results36, go_sem, Thr.zero, Thr.agg, *]) rfl ⟨?_, six_ext hE1 (by simp) _ _ _ _ _ _⟩
      rw [← HT.out]; simp [visS, hc]
    · have k0 := hb1.cell 0 (v := .int .i64 start) rfl
      have hs1 := hb1.lt
      go_wp2_with fail
      refine (leg_within_1 _ _ _ _ _ (by simp)).mono ?_
      rintro e w2 ⟨rfl, hx2⟩
      have hb2 := hb1.ext hx2
      have hz2 := hz1.ext hx2
      have hE2 := hE1.trans hx2
      have hL : leastS gout = if (gout == 0) = true then 1 else 2 := by simp [leastS]
      simp only [hg, if_true, if_false, Bool.false_eq_true] at hL
      clear hb1 hz1 hE1 hx2 k0 hs1
      have k0 := hb2.cell 0 (v := .int .i64 start) rfl
      have k1 := hb2.cell 1 (v := .int .i64 gin) rfl
      have k2 := hb2.cell 2 (v := .int .i64 gout) rfl
      have hs2 := hb2.lt
      have HZ := Lib.hid hz2
      obtain ⟨⟨z0, z1, z2, z3, z4, z5⟩, zs, f0, f1, f2, f3, f4, f5⟩ := hz2.six
      clear hz2
      cases hi : ins _ start [left]
      · go_wp2
        refine bodyPost_ret (v := .tuple #[Thr.zero.agg, .int .i64 3]) (by simp [results, Try.results36, go_sem, Thr.zero, Thr.agg, *]) rfl ⟨?_, six_ext hE2 (by simp) _ _ _ _ _ _⟩
        rw [← HT.out]; simp [visS, hc, hL, hi]
      · have hst := (cntB_start hc).1
        have hle := ins_one.1 hi
        generalize hTT : thr gin gout inn left beds = TT
        cases inn
        case' false => cases hn : left != start
        case false.true =>
          go_wp2
          refine bodyPost_ret (v := .tuple #[Thr.zero.agg, .int .i64 3]) (by simp [results, Try.results36, go_sem, Thr.zero, Thr.agg, *]) rfl ⟨?_, six_ext hE2 (by simp) _ _ _ _ _ _⟩
          rw [← HT.out]; simp [visS, hc, hL, hi, hn]
        all_goals
          go_wp2_with fail
          refine (leg_throw start gin gout _ left beds a c w2 (hA.out.ext hE2) hB.out hlen (by omega) _ hTT).mono ?_
          rintro e w3 ⟨rfl, hx3⟩
          have hz3 := HZ.out.ext hx3
          have HZ3 := Lib.hid hz3
          obtain ⟨⟨y0, y1, y2, y3, y4, y5⟩, ys, g0, g1, g2, g3, g4, g5⟩ := hz3.six
          clear hz3
          have hT : T = (TT.1, TT.2.2) := by rw [← HT.out]; simp [visS, *]
          clear HT hTT hA hB HZ hb2
          obtain ⟨⟨xl, xs, xd, xi, xb, xw⟩, at_, er⟩ := TT
          simp only [Thr.agg]
          go_wp2
          generalize hW : World.setCell _ _ _ = W
          have hE4 : Ext w W := by rw [← hW]; exact six_ext (six_ext (hE2.trans hx3) (by simp) _ _ _ _ _ _) (by simp) _ _ _ _ _ _
          have hZ4 : Blk W (w.heap.size + 1) #[.int .i64 xl, .int .i64 xs, .int .i64 xd, .bool xi, .bool xb, .bool xw] := by rw [← hW]; exact six_set (six_set HZ3.out _ _ _ _ _ _) _ _ _ _ _ _
          obtain ⟨⟨q0, q1, q2, q3, q4, q5⟩, _⟩ := hZ4.six
          refine bodyPost_ret (v := .tuple #[Thr.agg ⟨xl, xs, xd, xi, xb, xw⟩, .int .i64 er]) (by simp [results, Try.results36, go_sem, Thr.agg, q0, q1, q2, q3, q4, q5]) rfl ⟨?_, hE4⟩
          first | rfl | (rw [hT])
end Go.Proofs.Ytpifdeglhalefaa
