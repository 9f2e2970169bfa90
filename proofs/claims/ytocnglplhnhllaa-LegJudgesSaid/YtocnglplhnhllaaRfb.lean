/-
  The reference of chapter 3: Visit.
-/
import Derived.Test.YtocnglplhnhllaaRfa
namespace Go.Proofs.Ytocnglplhnhllaa
open Go.RowKit Go.BigFrame
attribute [local go_sem] Later.cell Later.frozen
def thrC (x : Thr) : Array Value := #[.int .i64 x.left, .int .i64 x.score, .int .i64 x.darts, .bool x.inn, .bool x.bust, .bool x.won]
section
variable {w : World} {b : Nat} {left score darts : Int} {inn bust won : Bool}
theorem tc_left (h : Blk w b (thrC ⟨left, score, darts, inn, bust, won⟩)) (v : Int) : Blk (w.setCell ⟨b, 0, none⟩ (.int .i64 v)) b (thrC ⟨v, score, darts, inn, bust, won⟩) := h.set 0 (.int .i64 v)
theorem tc_score (h : Blk w b (thrC ⟨left, score, darts, inn, bust, won⟩)) (v : Int) : Blk (w.setCell ⟨b, 1, none⟩ (.int .i64 v)) b (thrC ⟨left, v, darts, inn, bust, won⟩) := h.set 1 (.int .i64 v)
theorem tc_darts (h : Blk w b (thrC ⟨left, score, darts, inn, bust, won⟩)) (v : Int) : Blk (w.setCell ⟨b, 2, none⟩ (.int .i64 v)) b (thrC ⟨left, score, v, inn, bust, won⟩) := h.set 2 (.int .i64 v)
theorem tc_inn (h : Blk w b (thrC ⟨left, score, darts, inn, bust, won⟩)) (v : Bool) : Blk (w.setCell ⟨b, 3, none⟩ (.bool v)) b (thrC ⟨left, score, darts, v, bust, won⟩) := h.set 3 (.bool v)
theorem tc_bust (h : Blk w b (thrC ⟨left, score, darts, inn, bust, won⟩)) (v : Bool) : Blk (w.setCell ⟨b, 4, none⟩ (.bool v)) b (thrC ⟨left, score, darts, inn, v, won⟩) := h.set 4 (.bool v)
theorem tc_won (h : Blk w b (thrC ⟨left, score, darts, inn, bust, won⟩)) (v : Bool) : Blk (w.setCell ⟨b, 5, none⟩ (.bool v)) b (thrC ⟨left, score, darts, inn, bust, v⟩) := h.set 5 (.bool v)
theorem tc_cells (h : Blk w b (thrC ⟨left, score, darts, inn, bust, won⟩)) :
    (w.cell? ⟨b, 0, none⟩ = some (.int .i64 left) ∧ w.cell? ⟨b, 1, none⟩ = some (.int .i64 score) ∧ w.cell? ⟨b, 2, none⟩ = some (.int .i64 darts) ∧ w.cell? ⟨b, 3, none⟩ = some (.bool inn) ∧ w.cell? ⟨b, 4, none⟩ = some (.bool bust) ∧ w.cell? ⟨b, 5, none⟩ = some (.bool won)) ∧ b < w.heap.size ∧
      (w.frozen? ⟨b, 0, none⟩ = false ∧ w.frozen? ⟨b, 1, none⟩ = false ∧ w.frozen? ⟨b, 2, none⟩ = false ∧ w.frozen? ⟨b, 3, none⟩ = false ∧ w.frozen? ⟨b, 4, none⟩ = false ∧ w.frozen? ⟨b, 5, none⟩ = false) := Blk.six h
end
theorem Thr.hit_def (gin gout : Int) (x : Thr) (b : Int) : Thr.hit gin gout x b =
  if (b == 0) = true ∨ x.inn = false ∧ opn4 gin b = false then { x with darts := x.darts + 1 }
  else if (x.left - wrt b == 0 && opn4 gout b) = true then { x with darts := x.darts + 1, left := x.left - wrt b, inn := true, won := true, bust := false }
  else if (decide (x.left - wrt b < 2) && (x.left - wrt b != 1 || gout != 0)) = true then { x with darts := x.darts + 1, won := false, bust := true }
  else { x with darts := x.darts + 1, left := x.left - wrt b, inn := true, won := false, bust := false } := rfl
/-- The number of the wrong dart, 0 if there is no error. -/
def atR (T : Thr × Int × Int) : Int := if T.2.2 = 0 then 0 else T.2.1
set_option maxRecDepth 100000 in
set_option maxHeartbeats 2000000 in
theorem ref_Visit (start gin gout : Int) (inn : Bool) (left : Int) (beds : List Int) (a : Option Addr) (c : Nat) (w : World) (ha : CellsAt w .i64 a beds) (hb : ∀ x ∈ beds, I64 x) (hlen : beds.length ≤ 9223372036854775807) (hle : 0 ≤ left ∧ left ≤ 1001) (hg : cntB start gin gout = true)
    (T : Thr × Int × Int) (hT : thr gin gout inn left beds = T) :
    Calls Try.prog 17 #[.agg #[.int .i64 start, .int .i64 gin, .int .i64 gout], .bool inn, .int .i64 left, .slice a beds.length c] w fun e w' => e = .returned (.tuple #[T.1.agg, .int .i64 (atR T), .int .i64 T.2.2]) ∧ Ext w w' := by
  obtain ⟨-, hgin, hgout⟩ := cntB_start hg
  have HT := Lib.hid hT
  have hA := Lib.hid ha
  have hB := Lib.hid hb
  clear hT ha hb hg
  go_enter Try.func17, Try.ntmps17
  go_wp2
  go_loopw [12] (fun i wr => ∃ (k : Nat) (x : Thr), k ≤ beds.length ∧ i = .int .i64 k ∧ T = thrE inn left (thrW gin gout (beds.drop k) k x) ∧ (0 ≤ x.left ∧ x.left ≤ 1001) ∧ (0 ≤ x.darts ∧ x.darts ≤ 3) ∧
      Blk wr (w.heap.size + 2) (thrC x) ∧ Blk wr (w.heap.size + 1) #[.int .i64 0, .int .i64 0, .int .i64 0, .bool false, .bool false, .bool false] ∧ Blk wr w.heap.size #[.int .i64 start, .int .i64 gin, .int .i64 gout] ∧ Ext w wr) (fun i _ => beds.length - (intOf i).toNat)
  case atStart =>
    exact ⟨0, ⟨left, 0, 0, inn, false, false⟩, Nat.zero_le _, rfl, HT.out.symm, hle, ⟨by show (0 : Int) ≤ 0; omega, by show (0 : Int) ≤ 3; omega⟩, Blk.at _ (by simp), (Blk.at _ (by simp)).alloc _, ((Blk.at _ (by simp)).alloc _).alloc _, (((Ext.refl w).alloc _).alloc _).alloc _⟩
  case round =>
    obtain ⟨k, x, hk, rfl, hS, hxl, hxd, hV, hZ, hC, hx⟩ := hrel
    have HS := Lib.hid hS
    have HV := Lib.hid hV
    have HZ := Lib.hid hZ
    have HC := Lib.hid hC
    clear hS HT hV hZ hC
    by_cases hlt : k < beds.length
    · obtain ⟨b, off, rfl, hc0⟩ := hA.out k hlt
      have hc := hx.cell hc0
      have hbk := hB.out _ (List.getElem_mem hlt)
      have hdrop : beds.drop k = beds[k] :: beds.drop (k + 1) := by simp
      have hS1 := HS.out
      rw [hdrop] at hS1
      unfold thrW at hS1
      have HS1 := Lib.hid hS1
      clear hdrop hS1 HS hc0
      obtain ⟨xl, xs, xd, xi, xb, xw⟩ := x
      simp only at hxl hxd
      obtain ⟨⟨v0, v1, v2, v3, v4, v5⟩, vs, g0, g1, g2, g3, g4, g5⟩ := tc_cells HV.out
      cases ho : (Thr.mk xl xs xd xi xb xw).over
      · have ho' := ho
        unfold Thr.over at ho'
        simp only [Bool.or_eq_false_iff] at ho'
        obtain ⟨⟨o1, o2⟩, o3⟩ := ho'
        subst o2; subst o3
        have HO := Lib.hid ho
        clear ho
        go_wp2_with fail
        refine (ref_Bed beds[k] _ hbk).mono ?_
        rintro e w2 ⟨rfl, rfl⟩
        cases hv : validB beds[k]
        · obtain ⟨⟨z0, z1, z2, z3, z4, z5⟩, zs, f0, f1, f2, f3, f4, f5⟩ := HZ.out.six
          go_wp2
          refine bodyPost_ret (v := .tuple #[Thr.zero.agg, .int .i64 k, .int .i64 2]) (by simp [results, Try.results17, go_sem, Thr.zero, Thr.agg, *]) rfl ⟨?_, six_ext hx (by omega) _ _ _ _ _ _⟩
          rw [HS1.out]
          simp [thrE, atR, HO.out, hv]
        · have hw := wrt_bounds_valid hv
          have hS2 := HS1.out
          rw [if_neg (by rw [HO.out]; simp), if_neg (by rw [hv]; simp)] at hS2
          have HS2 := Lib.hid hS2
          have c1 := HC.out.cell 1 (v := .int .i64 gin) rfl
          have c2 := HC.out.cell 2 (v := .int .i64 gout) rfl
          have hcl := HC.out.lt
          obtain ⟨n, hn⟩ : ∃ n, xl - wrt beds[k] = n := ⟨_, rfl⟩
          have hnI : I64 n := by rw [← hn]; exact ⟨by omega, by omega⟩
          have HN := Lib.hid hn
          have hop := fun W => ref_Opens gin beds[k] W hbk hgin hv
          have hop2 := fun W => ref_Opens gout beds[k] W hbk hgout hv
          have hsc := fun W => (ref_Score beds[k] W hbk).mono fun e w' (h : _ ∧ W = w') => (⟨h.1, h.2 ▸ Ext.refl W⟩ : _ ∧ Ext W w')
          have hhit := Thr.hit_def gin gout ⟨xl, xs, xd, xi, false, false⟩ beds[k]
          simp only [hn] at hhit
          have HOp := Lib.hid hop
          have HOp2 := Lib.hid hop2
          have HSc := Lib.hid hsc
          have HH := Lib.hid hhit
          have hlf := Thr.hit_left (gin := gin) (gout := gout) (x := ⟨xl, xs, xd, xi, false, false⟩) hv hxl
          have hdt : (Thr.hit gin gout ⟨xl, xs, xd, xi, false, false⟩ beds[k]).darts = xd + 1 := Thr.hit_darts
          have hxd3 : xd ≠ 3 := by simpa using o1
          have HLF := Lib.hid hlf
          have HDT := Lib.hid hdt
          clear hS2 HS1 hop hop2 hsc hhit hlf hdt HO
          generalize Thr.hit gin gout ⟨xl, xs, xd, xi, false, false⟩ beds[k] = y at *
          have hV2 := tc_darts HV.out (xd + 1)
          have HV2 := Lib.hid hV2
          have hE2 := hx.setCell (p := ⟨w.heap.size + 2, 2, none⟩) (by simp) (.int .i64 (xd + 1))
          have hC2 := HC.out.other (a := ⟨w.heap.size + 2, 2, none⟩) (by simp) (.int .i64 (xd + 1))
          have hZ2 := HZ.out.other (a := ⟨w.heap.size + 2, 2, none⟩) (by simp) (.int .i64 (xd + 1))
          have HE2 := Lib.hid hE2
          have HC2 := Lib.hid hC2
          have HZ2 := Lib.hid hZ2
          clear hV2 hE2 hC2 hZ2
          cases xi
          case' false =>
            go_wp2_with fail
            refine (HOp.out _).mono ?_
            rintro e w3 ⟨rfl, rfl⟩
            cases h4 : opn4 gin beds[k]
          case false =>
            go_wp2
            go_roundw
            case rel => exact ⟨k + 1, y, by omega, by go_num, HS2.out, HLF.out, by rw [HDT.out]; omega, by rw [HH.out]; simp [h4]; exact HV2.out, HZ2.out, HC2.out, HE2.out⟩
            case measure => simp [intOf]; omega
          case' true => have H4 := Lib.hid h4
          case' true => clear h4
          all_goals
            go_wp2_with fail
            refine wp_region_later (by kernel_rfl) (by kernel_rfl) ?_
            repeat (go_big_quiet_step (refine Calls.later (HSc.out _)))
            try simp only [wrap64_in' hnI]
            refine wpQuiet_nil ?_
            intro w4 hw4
            obtain ⟨⟨w4, hx4⟩, rfl⟩ := hw4
            have HV3 := Lib.hid (HV2.out.ext hx4)
            have HE3 := Lib.hid (HE2.out.trans hx4)
            have HC3 := Lib.hid (HC2.out.ext hx4)
            have HZ3 := Lib.hid (HZ2.out.ext hx4)
            obtain ⟨⟨u0, u1, u2, u3, u4, u5⟩, us, e0, e1, e2, e3, e4, e5⟩ := tc_cells HV3.out
            have d2 := HC3.out.cell 2 (v := .int .i64 gout) rfl
            have ds := HC3.out.lt
            clear hx4 v0 v1 v2 v3 v4 v5 vs g0 g1 g2 g3 g4 g5 c1 c2 hcl HV2 HE2 HC2 HZ2
            cases h0 : beds[k] == 0
            case' true =>
              go_wp2
              go_roundw
              case rel => exact ⟨k + 1, y, by omega, by go_num, HS2.out, HLF.out, by rw [HDT.out]; omega, by rw [show y = ⟨xl, xs, xd + 1, _, false, false⟩ by rw [HH.out]; first | (simp [*, show opn4 gin beds[k] = true from H4.out]; try rfl) | (simp [*]; try rfl)]; exact HV3.out, HZ3.out, HC3.out, HE3.out⟩
              case measure => simp [intOf]; omega
            cases hn0 : n == 0
            case' true =>
              obtain rfl : n = 0 := by simpa using hn0
              go_wp2_with fail
              refine (HOp2.out _).mono ?_
              rintro e w5 ⟨rfl, rfl⟩
              cases h5 : opn4 gout beds[k]
              · go_wp2
                go_roundw
                case rel => exact ⟨k + 1, y, by omega, by go_num, HS2.out, HLF.out, by rw [HDT.out]; omega, by rw [show y = ⟨xl, xs, xd + 1, _, true, false⟩ by rw [HH.out]; first | (simp [*, show opn4 gin beds[k] = true from H4.out]; try rfl) | (simp [*]; try rfl)]; exact tc_bust HV3.out _, (HZ3.out.other (a := ⟨w.heap.size + 2, 4, none⟩) (by simp) (.bool true)), (HC3.out.other (a := ⟨w.heap.size + 2, 4, none⟩) (by simp) (.bool true)), (HE3.out.setCell (p := ⟨w.heap.size + 2, 4, none⟩) (by simp) (.bool true))⟩
                case measure => simp [intOf]; omega
              · go_wp2
                go_roundw
                case rel => exact ⟨k + 1, y, by omega, by go_num, HS2.out, HLF.out, by rw [HDT.out]; omega, by rw [show y = ⟨0, xs, xd + 1, true, false, true⟩ by rw [HH.out]; first | (simp [*, show opn4 gin beds[k] = true from H4.out]; try rfl) | (simp [*]; try rfl)]; exact tc_won (tc_left (tc_inn HV3.out _) _) _, (((HZ3.out.other (a := ⟨w.heap.size + 2, 3, none⟩) (by simp) (.bool true)).other (a := ⟨w.heap.size + 2, 0, none⟩) (by simp) (.int .i64 0)).other (a := ⟨w.heap.size + 2, 5, none⟩) (by simp) (.bool true)), (((HC3.out.other (a := ⟨w.heap.size + 2, 3, none⟩) (by simp) (.bool true)).other (a := ⟨w.heap.size + 2, 0, none⟩) (by simp) (.int .i64 0)).other (a := ⟨w.heap.size + 2, 5, none⟩) (by simp) (.bool true)), (((HE3.out.setCell (p := ⟨w.heap.size + 2, 3, none⟩) (by simp) (.bool true)).setCell (p := ⟨w.heap.size + 2, 0, none⟩) (by simp) (.int .i64 0)).setCell (p := ⟨w.heap.size + 2, 5, none⟩) (by simp) (.bool true))⟩
                case measure => simp [intOf]; omega
            by_cases h2 : 2 ≤ n
            · go_wp2
              go_roundw
              case rel => exact ⟨k + 1, y, by omega, by go_num, HS2.out, HLF.out, by rw [HDT.out]; omega, by rw [show y = ⟨n, xs, xd + 1, true, false, false⟩ by rw [HH.out]; first | (simp [*, show opn4 gin beds[k] = true from H4.out, show ¬ n < 2 by omega]; try rfl) | (simp [*, show ¬ n < 2 by omega]; try rfl)]; exact tc_left (tc_inn HV3.out _) _, ((HZ3.out.other (a := ⟨w.heap.size + 2, 3, none⟩) (by simp) (.bool true)).other (a := ⟨w.heap.size + 2, 0, none⟩) (by simp) (.int .i64 n)), ((HC3.out.other (a := ⟨w.heap.size + 2, 3, none⟩) (by simp) (.bool true)).other (a := ⟨w.heap.size + 2, 0, none⟩) (by simp) (.int .i64 n)), ((HE3.out.setCell (p := ⟨w.heap.size + 2, 3, none⟩) (by simp) (.bool true)).setCell (p := ⟨w.heap.size + 2, 0, none⟩) (by simp) (.int .i64 n))⟩
              case measure => simp [intOf]; omega
            cases h1 : n == 1
            · go_wp2
              go_roundw
              case rel => exact ⟨k + 1, y, by omega, by go_num, HS2.out, HLF.out, by rw [HDT.out]; omega, by rw [show y = ⟨xl, xs, xd + 1, _, true, false⟩ by rw [HH.out]; first | (simp [*, show opn4 gin beds[k] = true from H4.out, show n < 2 by omega, show ¬ n = 1 from by simpa using h1]; try rfl) | (simp [*, show n < 2 by omega, show ¬ n = 1 from by simpa using h1]; try rfl)]; exact tc_bust HV3.out _, (HZ3.out.other (a := ⟨w.heap.size + 2, 4, none⟩) (by simp) (.bool true)), (HC3.out.other (a := ⟨w.heap.size + 2, 4, none⟩) (by simp) (.bool true)), (HE3.out.setCell (p := ⟨w.heap.size + 2, 4, none⟩) (by simp) (.bool true))⟩
              case measure => simp [intOf]; omega
            cases hg0 : gout == 0
            · go_wp2
              go_roundw
              case rel => exact ⟨k + 1, y, by omega, by go_num, HS2.out, HLF.out, by rw [HDT.out]; omega, by rw [show y = ⟨xl, xs, xd + 1, _, true, false⟩ by rw [HH.out]; first | (simp [*, show opn4 gin beds[k] = true from H4.out, show n = 1 from by simpa using h1, show ¬ gout = 0 from by simpa using hg0]; try rfl) | (simp [*, show n = 1 from by simpa using h1, show ¬ gout = 0 from by simpa using hg0]; try rfl)]; exact tc_bust HV3.out _, (HZ3.out.other (a := ⟨w.heap.size + 2, 4, none⟩) (by simp) (.bool true)), (HC3.out.other (a := ⟨w.heap.size + 2, 4, none⟩) (by simp) (.bool true)), (HE3.out.setCell (p := ⟨w.heap.size + 2, 4, none⟩) (by simp) (.bool true))⟩
              case measure => simp [intOf]; omega
            · go_wp2
              go_roundw
              case rel => exact ⟨k + 1, y, by omega, by go_num, HS2.out, HLF.out, by rw [HDT.out]; omega, by rw [show y = ⟨n, xs, xd + 1, true, false, false⟩ by rw [HH.out]; first | (simp [*, show opn4 gin beds[k] = true from H4.out, show n = 1 from by simpa using h1, show gout = 0 from by simpa using hg0]; try rfl) | (simp [*, show n = 1 from by simpa using h1, show gout = 0 from by simpa using hg0]; try rfl)]; exact tc_left (tc_inn HV3.out _) _, ((HZ3.out.other (a := ⟨w.heap.size + 2, 3, none⟩) (by simp) (.bool true)).other (a := ⟨w.heap.size + 2, 0, none⟩) (by simp) (.int .i64 n)), ((HC3.out.other (a := ⟨w.heap.size + 2, 3, none⟩) (by simp) (.bool true)).other (a := ⟨w.heap.size + 2, 0, none⟩) (by simp) (.int .i64 n)), ((HE3.out.setCell (p := ⟨w.heap.size + 2, 3, none⟩) (by simp) (.bool true)).setCell (p := ⟨w.heap.size + 2, 0, none⟩) (by simp) (.int .i64 n))⟩
              case measure => simp [intOf]; omega
      · have hS2 := HS1.out
        rw [if_pos ho] at hS2
        have HS2 := Lib.hid hS2
        clear hS2 HS1
        obtain ⟨⟨z0, z1, z2, z3, z4, z5⟩, zs, f0, f1, f2, f3, f4, f5⟩ := HZ.out.six
        unfold Thr.over at ho
        cases o1 : xd == 3
        case' false =>
          simp only [o1, Bool.false_or] at ho
          cases xw
          case' false =>
            simp only [Bool.false_or] at ho
            subst ho
        all_goals
          go_wp2
          refine bodyPost_ret (v := .tuple #[Thr.zero.agg, .int .i64 k, .int .i64 32]) (by simp [results, Try.results17, go_sem, Thr.zero, Thr.agg, *]) rfl ⟨?_, six_ext hx (by omega) _ _ _ _ _ _⟩
          rw [HS2.out]
          simp [thrE, atR]
    · obtain rfl : k = beds.length := by omega
      obtain ⟨xl, xs, xd, xi, xb, xw⟩ := x
      simp only at hxl hxd
      have hS : T = Thr.end inn left ⟨xl, xs, xd, xi, xb, xw⟩ := by rw [HS.out]; simp [thrW, thrE]
      have HS2 := Lib.hid hS
      clear hS HS
      obtain ⟨⟨v0, v1, v2, v3, v4, v5⟩, vs, g0, g1, g2, g3, g4, g5⟩ := tc_cells HV.out
      obtain ⟨⟨z0, z1, z2, z3, z4, z5⟩, zs, f0, f1, f2, f3, f4, f5⟩ := HZ.out.six
      cases o1 : xd == 3
      · have hlt3 : xd < 3 := by have : xd ≠ 3 := by simpa using o1
                                 omega
        cases xw
        · cases xb
          · go_wp2
            refine bodyPost_ret (v := .tuple #[Thr.zero.agg, .int .i64 (-1), .int .i64 31]) (by simp [results, Try.results17, go_sem, Thr.zero, Thr.agg, *]) rfl ⟨?_, ?_⟩
            · rw [HS2.out]
              simp [Thr.end, Thr.over, atR, *]
            · exact six_ext hx (by omega) _ _ _ _ _ _
          · go_wp2
            generalize hW : World.setCell _ _ _ = W
            have hE4 : Ext w W := by rw [← hW]; exact six_ext (((hx.setCell (by simp <;> omega) _).setCell (by simp <;> omega) _).setCell (by simp <;> omega) _) (by omega) _ _ _ _ _ _
            have hZ4 : Blk W (w.heap.size + 1) #[.int .i64 (left), .int .i64 (0), .int .i64 xd, .bool inn, .bool true, .bool false] := by rw [← hW]; exact six_set ((((HZ.out.other (by simp) _).other (by simp) _).other (by simp) _)) _ _ _ _ _ _
            obtain ⟨⟨q0, q1, q2, q3, q4, q5⟩, _⟩ := hZ4.six
            refine bodyPost_ret (v := .tuple #[Thr.agg ⟨left, 0, xd, inn, true, false⟩, .int .i64 0, .int .i64 0]) (by simp [results, Try.results17, go_sem, Thr.agg, q0, q1, q2, q3, q4, q5]) rfl ⟨?_, hE4⟩
            rw [HS2.out]
            simp [Thr.end, Thr.over, atR, *]
        · cases xb
          · go_wp2
            generalize hW : World.setCell _ _ _ = W
            have hE4 : Ext w W := by rw [← hW]; exact six_ext (hx.setCell (by simp <;> omega) _) (by omega) _ _ _ _ _ _
            have hZ4 : Blk W (w.heap.size + 1) #[.int .i64 (xl), .int .i64 (left - xl), .int .i64 xd, .bool xi, .bool false, .bool true] := by rw [← hW]; exact six_set ((HZ.out.other (by simp) _)) _ _ _ _ _ _
            obtain ⟨⟨q0, q1, q2, q3, q4, q5⟩, _⟩ := hZ4.six
            refine bodyPost_ret (v := .tuple #[Thr.agg ⟨xl, left - xl, xd, xi, false, true⟩, .int .i64 0, .int .i64 0]) (by simp [results, Try.results17, go_sem, Thr.agg, q0, q1, q2, q3, q4, q5]) rfl ⟨?_, hE4⟩
            rw [HS2.out]
            simp [Thr.end, Thr.over, atR, *]
          · go_wp2
            generalize hW : World.setCell _ _ _ = W
            have hE4 : Ext w W := by rw [← hW]; exact six_ext (((hx.setCell (by simp <;> omega) _).setCell (by simp <;> omega) _).setCell (by simp <;> omega) _) (by omega) _ _ _ _ _ _
            have hZ4 : Blk W (w.heap.size + 1) #[.int .i64 (left), .int .i64 (0), .int .i64 xd, .bool inn, .bool true, .bool true] := by rw [← hW]; exact six_set ((((HZ.out.other (by simp) _).other (by simp) _).other (by simp) _)) _ _ _ _ _ _
            obtain ⟨⟨q0, q1, q2, q3, q4, q5⟩, _⟩ := hZ4.six
            refine bodyPost_ret (v := .tuple #[Thr.agg ⟨left, 0, xd, inn, true, true⟩, .int .i64 0, .int .i64 0]) (by simp [results, Try.results17, go_sem, Thr.agg, q0, q1, q2, q3, q4, q5]) rfl ⟨?_, hE4⟩
            rw [HS2.out]
            simp [Thr.end, Thr.over, atR, *]
      · have hlt3 : ¬ xd < 3 := by have : xd = 3 := by simpa using o1
                                   omega
        cases xb
        · go_wp2
          generalize hW : World.setCell _ _ _ = W
          have hE4 : Ext w W := by rw [← hW]; exact six_ext (hx.setCell (by simp <;> omega) _) (by omega) _ _ _ _ _ _
          have hZ4 : Blk W (w.heap.size + 1) #[.int .i64 (xl), .int .i64 (left - xl), .int .i64 xd, .bool xi, .bool false, .bool xw] := by rw [← hW]; exact six_set ((HZ.out.other (by simp) _)) _ _ _ _ _ _
          obtain ⟨⟨q0, q1, q2, q3, q4, q5⟩, _⟩ := hZ4.six
          refine bodyPost_ret (v := .tuple #[Thr.agg ⟨xl, left - xl, xd, xi, false, xw⟩, .int .i64 0, .int .i64 0]) (by simp [results, Try.results17, go_sem, Thr.agg, q0, q1, q2, q3, q4, q5]) rfl ⟨?_, hE4⟩
          rw [HS2.out]
          simp [Thr.end, Thr.over, atR, *]
        · go_wp2
          generalize hW : World.setCell _ _ _ = W
          have hE4 : Ext w W := by rw [← hW]; exact six_ext (((hx.setCell (by simp <;> omega) _).setCell (by simp <;> omega) _).setCell (by simp <;> omega) _) (by omega) _ _ _ _ _ _
          have hZ4 : Blk W (w.heap.size + 1) #[.int .i64 (left), .int .i64 (0), .int .i64 xd, .bool inn, .bool true, .bool xw] := by rw [← hW]; exact six_set ((((HZ.out.other (by simp) _).other (by simp) _).other (by simp) _)) _ _ _ _ _ _
          obtain ⟨⟨q0, q1, q2, q3, q4, q5⟩, _⟩ := hZ4.six
          refine bodyPost_ret (v := .tuple #[Thr.agg ⟨left, 0, xd, inn, true, xw⟩, .int .i64 0, .int .i64 0]) (by simp [results, Try.results17, go_sem, Thr.agg, q0, q1, q2, q3, q4, q5]) rfl ⟨?_, hE4⟩
          rw [HS2.out]
          simp [Thr.end, Thr.over, atR, *]
end Go.Proofs.Ytocnglplhnhllaa
