/-
  Package leg: a visit while it is thrown: isOver, hit.
-/
import Derived.Test.YtocnglplhnhllaaLegA
import Derived.Test.YtocnglplhnhllaaReg
import Derived.BigQuiet
namespace Go.Proofs.Ytocnglplhnhllaa
open Go.RowKit Go.BigFrame
attribute [local go_sem] Later.cell Later.frozen Lat.cell Lat.frozen

/-- A visit while it is thrown. -/
structure Thr where
  left : Int
  score : Int
  darts : Int
  inn : Bool
  bust : Bool
  won : Bool
  deriving DecidableEq
def Thr.cells (x : Thr) : List Value := [.int .i64 x.left, .int .i64 x.score, .int .i64 x.darts, .bool x.inn, .bool x.bust, .bool x.won]
def visC (start gin gout : Int) (x : Thr) : Array Value := #[.int .i64 start, .int .i64 gin, .int .i64 gout, .int .i64 x.left, .int .i64 x.score, .int .i64 x.darts, .bool x.inn, .bool x.bust, .bool x.won]
/-- Whether a visit is at its end. -/
def Thr.over (x : Thr) : Bool := x.darts == 3 || x.won || x.bust
theorem visit_isOver (start gin gout : Int) (x : Thr) (b : Nat) (w : World) (h : Blk w b (visC start gin gout x)) :
    Calls Try.prog 67 #[.pointer (some ⟨b, 0, none⟩)] w fun e w' => e = .returned (.bool x.over) ∧ w = w' := by
  have h5 := h.cell 5 (v := .int .i64 x.darts) rfl
  have h7 := h.cell 7 (v := .bool x.bust) rfl
  have h8 := h.cell 8 (v := .bool x.won) rfl
  unfold Thr.over
  cases e1 : x.darts == 3
  · cases e2 : x.won
    all_goals
      go_enter Try.func67, Try.ntmps67
      go_wp2
      go_ret
      exact ⟨ret_bool (by simp), rfl⟩
  · go_enter Try.func67, Try.ntmps67
    go_wp2
    go_ret
    exact ⟨ret_bool (by simp), rfl⟩
/-- What a dart does to a visit. -/
def Thr.hit (gin gout : Int) (x : Thr) (b : Int) : Thr :=
  if (b == 0) = true ∨ x.inn = false ∧ opn4 gin b = false then { x with darts := x.darts + 1 }
  else if (x.left - wrt b == 0 && opn4 gout b) = true then { x with darts := x.darts + 1, left := x.left - wrt b, inn := true, won := true, bust := false }
  else if (decide (x.left - wrt b < 2) && (x.left - wrt b != 1 || gout != 0)) = true then { x with darts := x.darts + 1, won := false, bust := true }
  else { x with darts := x.darts + 1, left := x.left - wrt b, inn := true, won := false, bust := false }
section
variable {w : World} {b : Nat} {start gin gout left score darts : Int} {inn bust won : Bool}
theorem vis_left (h : Blk w b (visC start gin gout ⟨left, score, darts, inn, bust, won⟩)) (v : Int) : Blk (w.setCell ⟨b, 3, none⟩ (.int .i64 v)) b (visC start gin gout ⟨v, score, darts, inn, bust, won⟩) := by simpa [visC] using h.set 3 (.int .i64 v)
theorem vis_score (h : Blk w b (visC start gin gout ⟨left, score, darts, inn, bust, won⟩)) (v : Int) : Blk (w.setCell ⟨b, 4, none⟩ (.int .i64 v)) b (visC start gin gout ⟨left, v, darts, inn, bust, won⟩) := by simpa [visC] using h.set 4 (.int .i64 v)
theorem vis_darts (h : Blk w b (visC start gin gout ⟨left, score, darts, inn, bust, won⟩)) (v : Int) : Blk (w.setCell ⟨b, 5, none⟩ (.int .i64 v)) b (visC start gin gout ⟨left, score, v, inn, bust, won⟩) := by simpa [visC] using h.set 5 (.int .i64 v)
theorem vis_inn (h : Blk w b (visC start gin gout ⟨left, score, darts, inn, bust, won⟩)) (v : Bool) : Blk (w.setCell ⟨b, 6, none⟩ (.bool v)) b (visC start gin gout ⟨left, score, darts, v, bust, won⟩) := by simpa [visC] using h.set 6 (.bool v)
theorem vis_bust (h : Blk w b (visC start gin gout ⟨left, score, darts, inn, bust, won⟩)) (v : Bool) : Blk (w.setCell ⟨b, 7, none⟩ (.bool v)) b (visC start gin gout ⟨left, score, darts, inn, v, won⟩) := by simpa [visC] using h.set 7 (.bool v)
theorem vis_won (h : Blk w b (visC start gin gout ⟨left, score, darts, inn, bust, won⟩)) (v : Bool) : Blk (w.setCell ⟨b, 8, none⟩ (.bool v)) b (visC start gin gout ⟨left, score, darts, inn, bust, v⟩) := by simpa [visC] using h.set 8 (.bool v)
end
/-- While 'Won' is written. -/
def HitG (start gin gout left score darts : Int) (inn bust p : Bool) (b : Nat) (L : Nat → Bool) (w : World) : Prop := ∃ v : Bool, Blk w b (visC start gin gout ⟨left, score, darts, inn, bust, v⟩) ∧ (L 15 = true → v = p)
set_option maxHeartbeats 1000000 in
theorem visit_hit_open (start gin gout left score darts : Int) (inn bust won : Bool) (d : Int) (b : Nat) (w : World) (hb : Blk w b (visC start gin gout ⟨left, score, darts, inn, bust, won⟩)) (hd : I64 d) (hl : I64 (left - wrt d)) (hc : -1000 ≤ darts ∧ darts ≤ 1000)
    (h0 : (d == 0) = false) (ho : inn = true ∨ opn4 gin d = true) (y : Thr) (hy : y = Thr.hit gin gout ⟨left, score, darts, inn, bust, won⟩ d) :
    Calls Try.prog 69 #[.pointer (some ⟨b, 0, none⟩), .agg #[.int .i64 d]] w fun e w' => e = .returned (.tuple #[]) ∧ Blk w' b (visC start gin gout y) ∧ Chg (· = b) w w' := by
  have HL := Lib.hid hl
  clear hl
  obtain ⟨n, hn⟩ : ∃ n, left - wrt d = n := ⟨_, rfl⟩
  have HX := Lib.hid hy
  clear hy
  have c1 := hb.cell 1 (v := .int .i64 gin) rfl
  have c2 := hb.cell 2 (v := .int .i64 gout) rfl
  have c3 := hb.cell 3 (v := .int .i64 left) rfl
  have c5 := hb.cell 5 (v := .int .i64 darts) rfl
  have c6 := hb.cell 6 (v := .bool inn) rfl
  have f5 := hb.frozen 5
  have hlt := hb.lt
  have hlt1 : b < w.heap.size + 1 := by omega
  cases inn
  case' false => replace ho : opn4 gin d = true := by simpa using ho
  case' true => clear ho
  all_goals
    go_enter Try.func69, Try.ntmps69
    go_wp2
    refine wp_region_later (by kernel_rfl) (by kernel_rfl) ?_
    repeat go_big_quiet_step (refine Calls.later (dart_opens d gin _ hd))
    refine wpQuiet_nil ?_
    intro w1 hw1
    obtain ⟨⟨w1, hx1⟩, rfl⟩ := hw1
    have hb1 : Blk w1 b (visC start gin gout ⟨left, score, darts + 1, _, bust, won⟩) := ((vis_darts hb (darts + 1)).alloc _).ext hx1
    have hB : w1.cell? ⟨w.heap.size, 0, none⟩ = some (.int .i64 d) := hx1.cell (by simp [go_sem, *])
    have hE : Chg (· = b) w w1 := ((Chg.setCell (S := (· = b)) (Chg.refl _ w) (.inr rfl) _).alloc _).ext' hx1
    have hs1 : w.heap.size < w1.heap.size := lt_of_cell hB
    clear c1 c2 c3 c5 c6 f5 hx1 hb
    have c1 := hb1.cell 1 (v := .int .i64 gin) rfl
    have c2 := hb1.cell 2 (v := .int .i64 gout) rfl
    have c3 := hb1.cell 3 (v := .int .i64 left) rfl
    have hlt2 : b < w1.heap.size := by omega
    clear hlt1
    go_wp2
    refine wp_region_later (by kernel_rfl) (by kernel_rfl) ?_
    repeat go_big_quiet_step (refine Calls.later (dart_worth d _ hd))
    have HL' : I64 n := by rw [← hn]; exact HL.out
    simp only [wrap64_in' HL']
    refine wpQuiet_nil ?_
    intro w2 hw2
    obtain ⟨⟨w2, hx2⟩, rfl⟩ := hw2
    have hb2 := hb1.ext hx2
    have hB2 := hx2.cell hB
    have hE2 := hE.ext' hx2
    have hs2 := lt_of_cell hB2
    have hlt3 := hb2.lt
    clear hb1 hB hE hs1 c1 c2 c3 hx2 hlt2
    have c2 := hb2.cell 2 (v := .int .i64 gout) rfl
    cases hz : n == 0
    case' true => cases hq : opn4 gout d
  all_goals
    go_wp2
    have Hb := Lib.hid hb2
    refine wp_region_lat (by kernel_rfl) (fun b' o => b' = b ∧ o = 8) (fun k => k == 15) (fun _ _ => True) (fun L _ w' => HitG start gin gout left score (darts + 1) _ bust (n == 0 && opn4 gout d) b L w')
      (by kernel_rfl) (fun k hk => by have : k = 15 := by simpa using hk
                                      subst this; decide) (fun L L' _ _ h ⟨v, hg, hl⟩ => ⟨v, hg, fun hl' => hl (by rw [← h 15 rfl]; exact hl')⟩) (fun L _ w' w'' ⟨v, hg, hl⟩ hx => ⟨v, hg.ext hx, hl⟩) (fun _ => undef) (fun _ _ => trivial) ⟨won, hb2.drew, fun h => by cases h⟩ ?_
    intro T hT hne u hu
    refine lx_next 15 (by rfl) (by decide) ?_
    dsimp only [List.take, List.drop]
    repeat go_big_quiet_step (refine Calls.lat hT (dart_opens d gout _ hd))
    refine wpQuiet_nil ?_
    refine lx_loud (by rfl) (by kernel_rfl) ?_ (fun K hK => ?_)
    · intro L w3 _ _ _ hC ⟨v, hv, _⟩
      obtain ⟨x, rfl⟩ := hC
      have hf := hv.frozen 8
      have hcc := hv.cell 8 (v := .bool v) rfl
      have hlt4 := hv.lt
      go_wp2
      exact ⟨⟨x.setCell (.inr ⟨rfl, rfl⟩) _, rfl⟩, _, vis_won hv _, fun _ => by simp [*]⟩
    refine hK _ ?_
    clear hK K
    refine lx_nil ?_
    intro x hG
    obtain ⟨v, hb3, hv⟩ := hG
    have hE3 := hE2.trans (x.chg.mono (T := (· = b)) (by rintro k _ ⟨o, rfl, _⟩; rfl))
    replace hv := hv rfl
    generalize hw3 : x.world = w3 at *
    rw [hz] at hv
    try rw [hq] at hv
    simp only [Bool.false_and, Bool.and_self, Bool.and_false] at hv
    subst hv
    have hlt4 := hb3.lt
    have f3 := hb3.frozen 3
    have f6 := hb3.frozen 6
    have f7 := hb3.frozen 7
    have c2 := hb3.cell 2 (v := .int .i64 gout) rfl
    have c3 := hb3.cell 3 (v := .int .i64 left) rfl
    have c6 := hb3.cell 6 (v := .bool _) rfl
    have c7 := hb3.cell 7 (v := .bool bust) rfl
    have c8 := hb3.cell 8 (v := .bool _) rfl
    clear hE2 hb2 hB2 hs2 hlt3 Hb hu hT hne hw3 x
  case' h.refine_2.true.true.h.refine_2.refine_2 | h.refine_2.h.refine_2.true.true.h.refine_2.refine_2 =>
    go_wp2
    refine bodyPost_end (results_none rfl _ _ _) rfl ?_
    rw [show y = ⟨n, score, darts + 1, true, false, true⟩ by rw [HX.out]; simp [Thr.hit, *]]
    exact ⟨rfl, vis_inn (vis_left (vis_bust hb3 _) _) _, ((hE3.setCell (.inr rfl) _).setCell (.inr rfl) _).setCell (.inr rfl) _⟩
  case' h.refine_2.true.false.h.refine_2.refine_2 | h.refine_2.h.refine_2.true.false.h.refine_2.refine_2 =>
    have e0 : n = 0 := by simpa using hz
    subst e0
    go_wp2
    refine bodyPost_end (results_none rfl _ _ _) rfl ?_
    rw [show y = ⟨left, score, darts + 1, _, true, false⟩ by rw [HX.out]; simp [Thr.hit, *]; rfl]
    exact ⟨rfl, vis_bust hb3 _, hE3.setCell (.inr rfl) _⟩
  all_goals
    cases e2 : decide (n < 2)
    case' true =>
      cases e1 : n != 1
      case' false => cases e3 : gout != 0
  all_goals
    have e2' := e2
    simp only [decide_eq_false_iff_not, decide_eq_true_eq] at e2'
    go_wp2
    refine bodyPost_end (results_none rfl _ _ _) rfl ?_
    first
      | (rw [show y = ⟨left, score, darts + 1, _, true, false⟩ by rw [HX.out]; simp [Thr.hit, *]; rfl]
         exact ⟨rfl, vis_bust hb3 _, hE3.setCell (.inr rfl) _⟩)
      | (rw [show y = ⟨n, score, darts + 1, true, false, false⟩ by rw [HX.out]; simp [Thr.hit, *]]
         exact ⟨rfl, vis_inn (vis_left (vis_bust hb3 _) _) _, ((hE3.setCell (.inr rfl) _).setCell (.inr rfl) _).setCell (.inr rfl) _⟩)
theorem visit_hit (start gin gout : Int) (x : Thr) (d : Int) (b : Nat) (w : World) (hb : Blk w b (visC start gin gout x)) (hd : I64 d) (hl : I64 (x.left - wrt d)) (hc : -1000 ≤ x.darts ∧ x.darts ≤ 1000) :
    Calls Try.prog 69 #[.pointer (some ⟨b, 0, none⟩), .agg #[.int .i64 d]] w fun e w' => e = .returned (.tuple #[]) ∧ Blk w' b (visC start gin gout (x.hit gin gout d)) ∧ Chg (· = b) w w' := by
  obtain ⟨left, score, darts, inn, bust, won⟩ := x
  cases h0 : d == 0
  case' false =>
    cases inn
    case' false => cases ho : opn4 gin d
  case false.true => exact visit_hit_open start gin gout left score darts true bust won d b w hb hd hl hc h0 (.inl rfl) _ rfl
  case false.false.true => exact visit_hit_open start gin gout left score darts false bust won d b w hb hd hl hc h0 (.inr ho) _ rfl
  all_goals
    have HL := Lib.hid hl
    clear hl
    have c1 := hb.cell 1 (v := .int .i64 gin) rfl
    have c5 := hb.cell 5 (v := .int .i64 darts) rfl
    have c6 := hb.cell 6 (v := .bool _) rfl
    have f5 := hb.frozen 5
    have hlt := hb.lt
    have hlt1 : b < w.heap.size + 1 := by omega
    replace hc : -1000 ≤ darts ∧ darts ≤ 1000 := hc
    go_enter Try.func69, Try.ntmps69
    go_wp2
    refine wp_region_later (by kernel_rfl) (by kernel_rfl) ?_
    repeat go_big_quiet_step (refine Calls.later (dart_opens d gin _ hd))
    refine wpQuiet_nil ?_
    intro w1 hw1
    obtain ⟨⟨w1, hx1⟩, rfl⟩ := hw1
    have hb1 := ((vis_darts hb (darts + 1)).alloc _).ext hx1
    have hE := ((Chg.setCell (S := (· = b)) (Chg.refl _ w) (.inr rfl) _).alloc _).ext' hx1
    go_wp2
    refine bodyPost_ret (by simp [results, Try.results69, go_sem]; try rfl) rfl ?_
    rw [show Thr.hit gin gout ⟨left, score, darts, _, bust, won⟩ d = ⟨left, score, darts + 1, _, bust, won⟩ by simp [Thr.hit, *]; rfl]
    exact ⟨rfl, hb1, hE⟩
end Go.Proofs.Ytocnglplhnhllaa
