/-
  Package mean: what a dart does: hit, isFinish.
-/
import Derived.Test.YtmopadnkjlodnaaMeanC
namespace Go.Proofs.Ytmopadnkjlodnaa
open Go.RowKit
attribute [local go_sem] Later.cell Later.frozen

/-- A stand and an effect as Go's values. -/
def hitV (r : Int × Bool × Int) : Value := .tuple #[.agg #[.int .i64 r.1, .bool r.2.1], .int .i64 r.2.2]
theorem ret_hit {a b : Int × Bool × Int} (h : a = b) : Ending.returned (.tuple #[.agg #[.int .i64 a.1, .bool a.2.1], .int .i64 a.2.2]) = .returned (hitV b) := by rw [h]; rfl

theorem mean_hit_miss (start gin gout left : Int) (inn : Bool) (vb : Value) (w : World) (hv : ∃ a n c, vb = .slice a n c) :
    Calls Try.prog 82 #[.agg #[.int .i64 start, .int .i64 gin, .int .i64 gout, vb], .agg #[.int .i64 left, .bool inn], .int .i64 0] w fun e w' => e = .returned (hitV (hitS gin gout left inn 0)) ∧ Ext w w' := by
  obtain ⟨a, n, c, rfl⟩ := hv
  go_enter Try.func82, Try.ntmps82
  go_wp2
  refine bodyPost_ret (v := .tuple #[.agg #[.int .i64 left, .bool inn], .int .i64 0]) (by simp [results, Try.results82, go_sem]) rfl ⟨?_, ?_⟩
  · exact ret_hit (a := (left, inn, 0)) (by simp [hitS])
  · exact ((((Ext.refl w).alloc _).alloc _).alloc _).alloc _
set_option maxHeartbeats 1000000 in
theorem mean_hit_shut (start gin gout left : Int) (vb : Value) (x : Int) (w : World) (hx : I64 x) (hv : ∃ a n c, vb = .slice a n c) (h0 : (x == 0) = false) (ho : opn gin x = false) :
    Calls Try.prog 82 #[.agg #[.int .i64 start, .int .i64 gin, .int .i64 gout, vb], .agg #[.int .i64 left, .bool false], .int .i64 x] w fun e w' => e = .returned (hitV (hitS gin gout left false x)) ∧ Ext w w' := by
  obtain ⟨a, n, c, rfl⟩ := hv
  go_enter Try.func82, Try.ntmps82
  go_wp2_with fail
  refine (mean_opens x gin _ hx).mono ?_
  rintro e w1 ⟨rfl, hx1⟩
  rw [ho]
  obtain ⟨hc1, hf1⟩ := hx1.reads
  go_wp2
  refine bodyPost_ret (v := .tuple #[.agg #[.int .i64 left, .bool false], .int .i64 0]) (by simp [results, Try.results82, go_sem, hc1]) rfl ⟨?_, ?_⟩
  · exact ret_hit (a := (left, false, 0)) (by simp [hitS, ho])
  · exact (((((((Ext.refl w).alloc _).alloc _).alloc _).alloc _).trans hx1).setCell (by simp; omega) _).setCell (by simp; omega) _
set_option maxHeartbeats 2000000 in
theorem mean_hit_open (start gin gout left : Int) (inn : Bool) (vb : Value) (x : Int) (w : World) (hx : I64 x) (hl : I64 (left - wrt x)) (hv : ∃ a n c, vb = .slice a n c) (h0 : (x == 0) = false) (ho : inn = true ∨ opn gin x = true) :
    Calls Try.prog 82 #[.agg #[.int .i64 start, .int .i64 gin, .int .i64 gout, vb], .agg #[.int .i64 left, .bool inn], .int .i64 x] w fun e w' => e = .returned (hitV (hitS gin gout left inn x)) ∧ Ext w w' := by
  obtain ⟨a, n, c, rfl⟩ := hv
  have hW := wrt_bounds hx
  have HL := Lib.hid hl
  clear hl
  cases inn
  case' false =>
    replace ho : opn gin x = true := by simpa using ho
    go_enter Try.func82, Try.ntmps82
    go_wp2_with fail
    refine (mean_opens x gin _ hx).mono ?_
    rintro e w1 ⟨rfl, hx1⟩
    rw [ho]
  case' true =>
    clear ho
    go_enter Try.func82, Try.ntmps82
    go_wp2_with fail
    obtain ⟨w1, hw1⟩ : ∃ w1, w1 = (((w.alloc (.cells #[.int .i64 start, .int .i64 gin, .int .i64 gout, .slice a n c] 101)).alloc (.cells #[.int .i64 left, .bool true] 119)).alloc (.cells #[.int .i64 0, .bool false] 119)).alloc (.cells #[.int .i64 x] 152) := ⟨_, rfl⟩
    have hx1 : Ext ((((w.alloc (.cells #[.int .i64 start, .int .i64 gin, .int .i64 gout, .slice a n c] 101)).alloc (.cells #[.int .i64 left, .bool true] 119)).alloc (.cells #[.int .i64 0, .bool false] 119)).alloc (.cells #[.int .i64 x] 152)) w1 := by rw [hw1]; exact Ext.refl _
    rw [← hw1]
    clear hw1
  all_goals
    obtain ⟨hc1, hf1⟩ := hx1.reads
    have hs := hx1.size
    simp only [World.size_alloc] at hs
    have s0 : w.heap.size < w1.heap.size := by omega
    have s1 : w.heap.size + 1 < w1.heap.size := by omega
    have s2 : w.heap.size + 1 + 1 < w1.heap.size := by omega
    have s3 : w.heap.size + 1 + 1 + 1 < w1.heap.size := by omega
    clear hs
    try go_wp2
    refine wp_region_later (by kernel_rfl) (by kernel_rfl) ?_
    repeat (quiet_step (refine Calls.later (mean_worth x _ hx)))
    refine wpQuiet_nil ?_
    intro w2 hw2
    obtain ⟨⟨w2, hx2⟩, rfl⟩ := hw2
    rw [wrap_i64_in HL.out]
    obtain ⟨hc2, hf2⟩ := (hx1.trans hx2).reads
    have hE : Ext w w2 := ((((((Ext.refl w).alloc _).alloc _).alloc _).alloc _).trans hx1).trans hx2
    have hR := hx1.trans hx2
    clear hc1 hf1 hx1 hx2 s0 s1 s2 s3
    by_cases hz : left - wrt x = 0
    · go_wp2_with fail
      refine (mean_opens x gout _ hx).mono ?_
      rintro e w3 ⟨rfl, hx3⟩
      clear hc2 hf2
      obtain ⟨hc2, hf2⟩ := (hR.trans hx3).reads
      replace hE := hE.trans hx3
      cases hg : opn gout x
      all_goals
        go_wp2
        refine bodyPost_ret (v := hitV (hitS gin gout left _ x)) (by simp [results, Try.results82, go_sem, hitS, hitV, *]) rfl ⟨rfl, ?_⟩
        refine (hE.setCell ?_ _).setCell ?_ _ <;> (simp; omega)
    · go_wp2
      all_goals
        refine bodyPost_ret (v := hitV (hitS gin gout left _ x)) (by simp [results, Try.results82, go_sem, hitS, hitV, *] <;> (have hn : ¬ 1 < left - wrt x := by omega) <;> simp [hn]) rfl ⟨rfl, ?_⟩
        refine (hE.setCell ?_ _).setCell ?_ _ <;> (simp; omega)
theorem mean_hit (start gin gout left : Int) (inn : Bool) (vb : Value) (x : Int) (w : World) (hx : I64 x) (hl : I64 (left - wrt x)) (hv : ∃ a n c, vb = .slice a n c) :
    Calls Try.prog 82 #[.agg #[.int .i64 start, .int .i64 gin, .int .i64 gout, vb], .agg #[.int .i64 left, .bool inn], .int .i64 x] w fun e w' => e = .returned (hitV (hitS gin gout left inn x)) ∧ Ext w w' := by
  cases h0 : x == 0
  · cases inn
    · cases ho : opn gin x
      · exact mean_hit_shut start gin gout left vb x w hx hv h0 ho
      · exact mean_hit_open start gin gout left false vb x w hx hl hv h0 (.inr ho)
    · exact mean_hit_open start gin gout left true vb x w hx hl hv h0 (.inl rfl)
  · obtain rfl : x = 0 := by simpa using h0
    exact mean_hit_miss start gin gout left inn vb w hv

/-- Whether a dart is at a finish: 1 or 0. -/
def fin (gin gout : Int) (beds : List Int) (left : Int) (inn : Bool) : Bool := beds.any fun b => (hitS gin gout left inn b).2.2 == 1
def finI (gin gout : Int) (beds : List Int) (left : Int) (inn : Bool) : Int := if fin gin gout beds left inn then 1 else 0
theorem finI_hit {gin gout : Int} {beds : List Int} {left : Int} {inn : Bool} (h : fin gin gout beds left inn = true) : finI gin gout beds left inn = 1 := by simp [finI, h]
theorem finI_miss {gin gout : Int} {beds : List Int} {left : Int} {inn : Bool} (h : fin gin gout beds left inn = false) : finI gin gout beds left inn = 0 := by simp [finI, h]
/-- Bounds under which a dart's sums do not wrap. -/
def Sane (left : Int) (beds : List Int) : Prop := ∀ b ∈ beds, I64 b ∧ I64 (left - wrt b)
set_option maxHeartbeats 1000000 in
theorem mean_fin1 (start gin gout left : Int) (inn : Bool) (a : Option Addr) (n c : Nat) (x : Int) (bl bs : Nat) (w : World) (hx : I64 x) (hl : I64 (left - wrt x))
    (c0 : w.cell? ⟨bl, 0, none⟩ = some (.int .i64 start)) (c1 : w.cell? ⟨bl, 1, none⟩ = some (.int .i64 gin)) (c2 : w.cell? ⟨bl, 2, none⟩ = some (.int .i64 gout)) (c3 : w.cell? ⟨bl, 3, none⟩ = some (.slice a n c))
    (d0 : w.cell? ⟨bs, 0, none⟩ = some (.int .i64 left)) (d1 : w.cell? ⟨bs, 1, none⟩ = some (.bool inn)) :
    Calls Try.prog 97 #[.int .i64 x, .pointer (some ⟨bl, 0, none⟩), .pointer (some ⟨bs, 0, none⟩)] w fun e w' => e = .returned (.bool ((hitS gin gout left inn x).2.2 == 1)) ∧ Ext w w' := by
  go_enter Try.func97, Try.ntmps97
  go_wp2_with fail
  refine (mean_hit start gin gout left inn _ x _ hx hl ⟨a, n, c, rfl⟩).mono ?_
  rintro e w1 ⟨rfl, hx1⟩
  unfold hitV
  go_wp2
  go_ret
  exact ⟨rfl, hx1.alloc _⟩
theorem enters_fin1 : Enters Try.prog 97 := enters_of Try.func97 (by kernel_rfl) rfl
set_option maxHeartbeats 1000000 in
theorem mean_isFinish (start gin gout left : Int) (inn : Bool) (beds : List Int) (a : Option Addr) (c : Nat) (w : World) (ha : CellsAt w .i64 a beds) (hb : beds.length ≤ 9223372036854775807) (hs : Sane left beds) :
    Calls Try.prog 80 #[.agg #[.int .i64 start, .int .i64 gin, .int .i64 gout, .slice a beds.length c], .agg #[.int .i64 left, .bool inn]] w fun e w' => e = .returned (.int .i64 (finI gin gout beds left inn)) ∧ Ext w w' := by
  go_enter Try.func80, Try.ntmps80
  go_wp2_with fail
  have hx0 : Ext w ((w.alloc (.cells #[.int .i64 start, .int .i64 gin, .int .i64 gout, .slice a beds.length c] 101)).alloc (.cells #[.int .i64 left, .bool inn] 119)) := ((Ext.refl w).alloc _).alloc _
  refine (containsFunc_b 97 _ enters_fin1 (fun b => (hitS gin gout left inn b).2.2 == 1) beds a c _ (by exact ha.ext hx0) hb (by
    exact fun x hx w1 hx1 => mean_fin1 start gin gout left inn a beds.length c x _ _ w1 (hs x hx).1 (hs x hx).2 (hx1.cell (by simp [go_sem])) (hx1.cell (by simp [go_sem])) (hx1.cell (by simp [go_sem])) (hx1.cell (by simp [go_sem])) (hx1.cell (by simp [go_sem])) (hx1.cell (by simp [go_sem])))).mono ?_
  rintro e w1 ⟨rfl, hx1⟩
  cases hf : fin gin gout beds left inn
  all_goals
    unfold fin at hf
    rw [hf]
    go_wp2
    go_ret
  · exact ⟨ret_int (finI_miss hf).symm, hx0.trans hx1⟩
  · exact ⟨ret_int (finI_hit hf).symm, hx0.trans hx1⟩
end Go.Proofs.Ytmopadnkjlodnaa
