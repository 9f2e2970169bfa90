/-
  Package leg: throw, Visit.
-/
import Derived.Test.YtocnglplhnhllaaLegB
namespace Go.Proofs.Ytocnglplhnhllaa
open Go.RowKit
attribute [local go_sem] Later.cell Later.frozen

def Thr.zero : Thr := ⟨0, 0, 0, false, false, false⟩
def Thr.agg (x : Thr) : Value := .agg #[.int .i64 x.left, .int .i64 x.score, .int .i64 x.darts, .bool x.inn, .bool x.bust, .bool x.won]
/-- The darts of a visit, one by one: what it comes to, or the number of a dart and its error. -/
def thrW (gin gout : Int) : List Int → Int → Thr → Thr ⊕ (Int × Int)
  | [], _, x => .inl x
  | b :: l, i, x => if x.over = true then .inr (i, 32) else if validB b = false then .inr (i, 2) else thrW gin gout l (i + 1) (x.hit gin gout b)
/-- What becomes of a visit when all darts are thrown. -/
def Thr.end (inn : Bool) (left : Int) (x : Thr) : Thr × Int × Int :=
  if x.over = false then (.zero, -1, 31)
  else if x.bust = true then (⟨left, 0, x.darts, inn, x.bust, x.won⟩, -1, 0) else (⟨x.left, left - x.left, x.darts, x.inn, x.bust, x.won⟩, -1, 0)
def thrE (inn : Bool) (left : Int) : Thr ⊕ (Int × Int) → Thr × Int × Int
  | .inr (i, e) => (.zero, i, e)
  | .inl x => x.end inn left
def thr (gin gout : Int) (inn : Bool) (left : Int) (beds : List Int) : Thr × Int × Int := thrE inn left (thrW gin gout beds 0 ⟨left, 0, 0, inn, false, false⟩)
theorem wrt_bounds_valid {b : Int} (h : validB b = true) : 0 ≤ wrt b ∧ wrt b ≤ 80 := by
  unfold validB at h
  simp only [List.any_cons, List.any_nil, Bool.or_false, Bool.or_eq_true, beq_iff_eq, Bool.and_eq_true] at h
  rcases h with (rfl | rfl | rfl) | ⟨h1, h2⟩
  · decide
  · decide
  · decide
  · simp only [ins, out1, List.any_cons, List.any_nil, Bool.or_false, Bool.not_or, Bool.and_eq_true, Bool.not_eq_true', decide_eq_false_iff_not] at h1 h2
    unfold wrt
    have h3 : 0 ≤ fct b := by omega
    have h4 : 0 ≤ nmb b := by omega
    exact ⟨Int.mul_nonneg h3 h4, Int.le_trans (Int.mul_le_mul (by omega : fct b ≤ 4) (by omega : nmb b ≤ 20) h4 (by omega)) (by omega)⟩
theorem Thr.hit_left {gin gout : Int} {x : Thr} {b : Int} (hv : validB b = true) (h : 0 ≤ x.left ∧ x.left ≤ 1001) : 0 ≤ (x.hit gin gout b).left ∧ (x.hit gin gout b).left ≤ 1001 := by
  have := wrt_bounds_valid hv
  unfold Thr.hit
  split
  · exact h
  · split
    · rename_i h1; simp only [Bool.and_eq_true, beq_iff_eq] at h1; simp only; omega
    · split
      · exact h
      · rename_i h1
        simp only [Bool.and_eq_true, decide_eq_true_eq, Bool.or_eq_true, bne_iff_ne, not_and, not_or, Decidable.not_not] at h1
        simp only
        omega
theorem Thr.hit_darts {gin gout : Int} {x : Thr} {b : Int} : (x.hit gin gout b).darts = x.darts + 1 := by
  unfold Thr.hit; split <;> (try split) <;> (try split) <;> rfl
theorem Thr.over_darts {x : Thr} (h : x.over = false) : x.darts ≠ 3 := by
  unfold Thr.over at h; simp at h; exact h.1.1
theorem Blk.at {w : World} {cs : Array Value} {t : TypeId} (n : Nat) (hn : n = w.heap.size) : Blk (w.alloc (.cells cs t)) n cs := hn ▸ Blk.new w cs t
/-- The cells of a block of six. -/
theorem Blk.six {w : World} {b : Nat} {v0 v1 v2 v3 v4 v5 : Value} (h : Blk w b #[v0, v1, v2, v3, v4, v5]) :
    (w.cell? ⟨b, 0, none⟩ = some v0 ∧ w.cell? ⟨b, 1, none⟩ = some v1 ∧ w.cell? ⟨b, 2, none⟩ = some v2 ∧ w.cell? ⟨b, 3, none⟩ = some v3 ∧ w.cell? ⟨b, 4, none⟩ = some v4 ∧ w.cell? ⟨b, 5, none⟩ = some v5) ∧ b < w.heap.size ∧
      (w.frozen? ⟨b, 0, none⟩ = false ∧ w.frozen? ⟨b, 1, none⟩ = false ∧ w.frozen? ⟨b, 2, none⟩ = false ∧ w.frozen? ⟨b, 3, none⟩ = false ∧ w.frozen? ⟨b, 4, none⟩ = false ∧ w.frozen? ⟨b, 5, none⟩ = false) :=
  ⟨⟨h.cell 0 rfl, h.cell 1 rfl, h.cell 2 rfl, h.cell 3 rfl, h.cell 4 rfl, h.cell 5 rfl⟩, h.lt, h.frozen 0, h.frozen 1, h.frozen 2, h.frozen 3, h.frozen 4, h.frozen 5⟩
/-- The cells of a visit. -/
theorem Blk.vis {w : World} {b : Nat} {start gin gout : Int} {x : Thr} (h : Blk w b (visC start gin gout x)) :
    (w.cell? ⟨b, 3, none⟩ = some (.int .i64 x.left) ∧ w.cell? ⟨b, 4, none⟩ = some (.int .i64 x.score) ∧ w.cell? ⟨b, 5, none⟩ = some (.int .i64 x.darts) ∧ w.cell? ⟨b, 6, none⟩ = some (.bool x.inn) ∧ w.cell? ⟨b, 7, none⟩ = some (.bool x.bust) ∧ w.cell? ⟨b, 8, none⟩ = some (.bool x.won)) ∧ b < w.heap.size ∧
      (w.frozen? ⟨b, 3, none⟩ = false ∧ w.frozen? ⟨b, 4, none⟩ = false ∧ w.frozen? ⟨b, 6, none⟩ = false) :=
  ⟨⟨h.cell 3 rfl, h.cell 4 rfl, h.cell 5 rfl, h.cell 6 rfl, h.cell 7 rfl, h.cell 8 rfl⟩, h.lt, h.frozen 3, h.frozen 4, h.frozen 6⟩
theorem ret_three {a a' b b' c c' : Value} (h1 : a = a') (h2 : b = b') (h3 : c = c') : Ending.returned (.tuple #[a, b, c]) = .returned (.tuple #[a', b', c']) := by rw [h1, h2, h3]
set_option maxHeartbeats 1000000 in
theorem leg_throw (start gin gout : Int) (inn : Bool) (left : Int) (beds : List Int) (a : Option Addr) (c : Nat) (w : World) (ha : CellsAt w .i64 a beds) (hb : ∀ x ∈ beds, I64 x) (hlen : beds.length ≤ 9223372036854775807) (hle : 0 ≤ left ∧ left ≤ 1001)
    (T : Thr × Int × Int) (hT : thr gin gout inn left beds = T) :
    Calls Try.prog 41 #[.agg #[.int .i64 start, .int .i64 gin, .int .i64 gout], .bool inn, .int .i64 left, .slice a beds.length c] w fun e w' => e = .returned (.tuple #[T.1.agg, .int .i64 T.2.1, .int .i64 T.2.2]) ∧ Ext w w' := by
  have HT := Lib.hid hT
  clear hT
  go_enter Try.func41, Try.ntmps41
  go_wp2
  have hA := Lib.hid ha
  have hB := Lib.hid hb
  clear ha hb
  go_loopw [21] (fun i wr => ∃ (k : Nat) (x : Thr), k ≤ beds.length ∧ i = .int .i64 k ∧ T = thrE inn left (thrW gin gout (beds.drop k) k x) ∧ (0 ≤ x.left ∧ x.left ≤ 1001) ∧ (0 ≤ x.darts ∧ x.darts ≤ 3) ∧
      Blk wr (w.heap.size + 2) (visC start gin gout x) ∧ Blk wr (w.heap.size + 1) #[.int .i64 0, .int .i64 0, .int .i64 0, .bool false, .bool false, .bool false] ∧ Ext w wr) (fun i _ => beds.length - (intOf i).toNat)
  case atStart =>
    exact ⟨0, ⟨left, 0, 0, inn, false, false⟩, Nat.zero_le _, rfl, HT.out.symm, hle, ⟨by show (0 : Int) ≤ 0; omega, by show (0 : Int) ≤ 3; omega⟩, Blk.at _ (by simp), (Blk.at _ (by simp)).alloc _, (((Ext.refl w).alloc _).alloc _).alloc _⟩
  case round =>
    obtain ⟨k, x, hk, rfl, hS, hxl, hxd, hV, hZ, hx⟩ := hrel
    have HS := Lib.hid hS
    clear hS HT
    by_cases hlt : k < beds.length
    · obtain ⟨b, off, rfl, hc0⟩ := hA.out k hlt
      have hc := hx.cell hc0
      have hbk := hB.out _ (List.getElem_mem hlt)
      have hdrop : beds.drop k = beds[k] :: beds.drop (k + 1) := by simp
      go_wp2_with fail
      refine (visit_isOver start gin gout x _ _ hV).mono ?_
      rintro e w1 ⟨rfl, rfl⟩
      cases ho : x.over
      · go_wp2_with fail
        refine (dart_isValid beds[k] _ hbk).mono ?_
        rintro e w2 ⟨rfl, hx2⟩
        have hZ2 := hZ.ext hx2
        have hV2 := hV.ext hx2
        have hE2 := hx.trans hx2
        clear hc hc0
        cases hv : validB beds[k]
        · obtain ⟨⟨z0, z1, z2, z3, z4, z5⟩, zs, f0, f1, f2, f3, f4, f5⟩ := hZ2.six
          clear hZ hZ2 hV hV2
          go_wp2
          refine bodyPost_ret (v := .tuple #[Thr.zero.agg, .int .i64 k, .int .i64 2]) (by simp [results, Try.results41, go_sem, Thr.zero, Thr.agg, *]) rfl ⟨?_, ?_⟩
          · rw [HS.out, hdrop]
            simp [thrW, thrE, ho, hv]
          · exact (((((hE2.setCell (by simp) _).setCell (by simp) _).setCell (by simp) _).setCell (by simp) _).setCell (by simp) _).setCell (by simp) _
        · have hw := wrt_bounds_valid hv
          go_wp2_with fail
          refine (visit_hit start gin gout x _ _ _ hV2 hbk ⟨by omega, by omega⟩ (by omega)).mono ?_
          rintro e w3 ⟨rfl, hV3, hC3⟩
          have hZ3 := hZ2.chg hC3 (by simp)
          have hE3 := Chg.to_ext hE2 hC3 (by rintro i rfl; omega)
          have := Thr.over_darts ho
          clear hV hV2 hZ hZ2 hC3
          go_wp2
          go_roundw
          case rel => exact ⟨k + 1, x.hit gin gout beds[k], by omega, by go_num, by rw [HS.out, hdrop]; simp [thrW, ho, hv], Thr.hit_left hv hxl, by rw [Thr.hit_darts]; omega, hV3, hZ3, hE3⟩
          case measure => simp [intOf]; omega
      · obtain ⟨⟨z0, z1, z2, z3, z4, z5⟩, zs, f0, f1, f2, f3, f4, f5⟩ := hZ.six
        clear hZ hV
        go_wp2
        refine bodyPost_ret (v := .tuple #[Thr.zero.agg, .int .i64 k, .int .i64 32]) (by simp [results, Try.results41, go_sem, Thr.zero, Thr.agg, *]) rfl ⟨?_, ?_⟩
        · rw [HS.out, hdrop]
          simp [thrW, thrE, ho]
        · exact (((((hx.setCell (by simp) _).setCell (by simp) _).setCell (by simp) _).setCell (by simp) _).setCell (by simp) _).setCell (by simp) _
    · obtain rfl : k = beds.length := by omega
      go_wp2_with fail
      refine (visit_isOver start gin gout x _ _ hV).mono ?_
      rintro e w1 ⟨rfl, rfl⟩
      obtain ⟨⟨z0, z1, z2, z3, z4, z5⟩, zs, f0, f1, f2, f3, f4, f5⟩ := hZ.six
      obtain ⟨⟨v3, v4, v5, v6, v7, v8⟩, vs, g3, g4, g6⟩ := hV.vis
      clear hZ hV
      cases ho : x.over
      · go_wp2
        refine bodyPost_ret (v := .tuple #[Thr.zero.agg, .int .i64 (-1), .int .i64 31]) (by simp [results, Try.results41, go_sem, Thr.zero, Thr.agg, *]) rfl ⟨?_, ?_⟩
        · rw [HS.out]
          simp [thrW, thrE, Thr.end, ho]
        · exact (((((hx.setCell (by simp) _).setCell (by simp) _).setCell (by simp) _).setCell (by simp) _).setCell (by simp) _).setCell (by simp) _
      · cases hbu : x.bust
        · go_wp2
          refine bodyPost_ret (v := .tuple #[Thr.agg ⟨x.left, left - x.left, x.darts, x.inn, false, x.won⟩, .int .i64 (-1), .int .i64 0]) (by simp [results, Try.results41, go_sem, Thr.agg, *]) rfl ⟨?_, ?_⟩
          · rw [HS.out]
            simp [thrW, thrE, Thr.end, ho, hbu]
          · exact ((((((hx.setCell (by simp <;> omega) _).setCell (by simp) _).setCell (by simp) _).setCell (by simp) _).setCell (by simp) _).setCell (by simp) _).setCell (by simp) _
        · go_wp2
          refine bodyPost_ret (v := .tuple #[Thr.agg ⟨left, 0, x.darts, inn, true, x.won⟩, .int .i64 (-1), .int .i64 0]) (by simp [results, Try.results41, go_sem, Thr.agg, *]) rfl ⟨?_, ?_⟩
          · rw [HS.out]
            simp [thrW, thrE, Thr.end, ho, hbu]
          · exact ((((((((hx.setCell (by simp <;> omega) _).setCell (by simp <;> omega) _).setCell (by simp <;> omega) _).setCell (by simp) _).setCell (by simp) _).setCell (by simp) _).setCell (by simp) _).setCell (by simp) _).setCell (by simp) _
end Go.Proofs.Ytocnglplhnhllaa
