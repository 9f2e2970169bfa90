/-
  MeanVisits, walked.
-/
import Derived.Test.YtmopadnkjlodnaaRas
import Derived.Test.YtmopadnkjlodnaaRle
namespace Go.Proofs.Ytmopadnkjlodnaa
open Go.RowKit Go.BigFrame
attribute [local go_sem] Later.cell Later.frozen
theorem eqMv (a b c d : Int) (w : World) : (Op.equalIn 10000 45 (.agg #[.int .i64 a, .int .i64 b, .int .i64 c, .int .i64 d]) (.agg #[.int .i64 a, .int .i64 b, .int .i64 c, .int .i64 d])).run Try.prog w = .ok true w := by
  have ay := Try.isAgg43
  have zs := Try.sizeOf43
  have hS : Try.prog.underlying 45 = some (.struct (Try.prog.fieldsOf 45)) := by kernel_rfl
  have e1 := fun W => eqSpn 9997 a b W
  have e2 := fun W => eqSpn 9997 c d W
  rw [show (10000 : Nat) = 9999 + 1 from rfl, run_equalIn_struct w 9999 45 _ _ hS (by kernel_rfl)]
  simp only [Program.fieldsOf, Try.underlying45]
  go_simp
theorem leaf_beds {sl score : Int} {wins : Bool} {left eff : Int} {fb : List Int} {tr : Int} {v : Vi} (h : v ∈ leafF sl score wins left eff fb tr) : v.beds = fb := by
  unfold leafF at h
  by_cases hc : (if eff = 2 then 0 else sl - left) = score ∧ (eff == 1) = wins
  · rw [if_pos hc] at h; rw [List.mem_singleton.1 h]
  · rw [if_neg hc] at h; cases h
theorem allF_beds {gin gout : Int} {beds : List Int} {sl score : Int} {wins : Bool} : ∀ (d : Nat) (left : Int) (inn : Bool) (eff : Int) (fb : List Int) (tr : Int) (v : Vi), v ∈ allF gin gout beds sl score wins d left inn eff fb tr → v.beds.length ≤ fb.length + d
  | 0, _, _, _, _, _, _, h => by rw [leaf_beds h]; exact Nat.le_refl _
  | d + 1, left, inn, eff, fb, tr, v, h => by
    unfold allF at h
    split at h
    · obtain ⟨b, -, h1⟩ := List.mem_flatMap.1 h
      have := allF_beds d _ _ _ _ _ v h1
      rw [List.length_append, List.length_singleton] at this
      omega
    · rw [leaf_beds h]; omega
theorem rvG_inl {gin gout : Int} {beds : List Int} : ∀ (l : List Sg) (k : Nat) (r : List (List Vi)), rvG gin gout beds l k = .inl r → r.length = l.length ∧ ∀ x ∈ r, ∃ s ∈ l, x = allOf gin gout beds s
  | [], _, r, h => by injection h with h; subst h; exact ⟨rfl, fun x hx => by cases hx⟩
  | s :: l, k, r, h => by
    unfold rvG at h
    split at h
    · cases h
    · cases hr : rvG gin gout beds l (k + 1) with
      | inl r' =>
        rw [hr] at h
        injection h with h
        subst h
        obtain ⟨h1, h2⟩ := rvG_inl l (k + 1) r' hr
        refine ⟨by simp [h1], fun x hx => ?_⟩
        rcases List.mem_cons.1 hx with rfl | hx
        · exact ⟨s, by simp, rfl⟩
        · obtain ⟨t, ht, e⟩ := h2 x hx
          exact ⟨t, by simp [ht], e⟩
      | inr n => rw [hr] at h; cases h
theorem ok_parts {start gin gout : Int} {beds scores : List Int} {won : Bool} (h : Leg.ok ⟨start, gin, gout, beds, scores, won⟩ = true) : (0 ≤ gin ∧ gin ≤ 2) ∧ (0 ≤ gout ∧ gout ≤ 2) ∧ (0 ≤ start ∧ start ≤ 1001) ∧ bedsB beds = true ∧ beds.length ≤ 82 ∧ scores.length ≤ 100 ∧ ∀ x ∈ scores, 0 ≤ x := by
  unfold Leg.ok at h
  simp only [Bool.and_eq_true, Bool.not_eq_true', decide_eq_true_iff] at h
  obtain ⟨h1, h2, h3, -⟩ := h
  have h4 := laws_cnt h1
  have h5 := cntB_start h4.1
  rw [lawsB_eq] at h1
  simp only [Bool.and_eq_true] at h1
  have h6 := ins_one.1 h1.2.2
  refine ⟨h5.2.1, h5.2.2, ⟨by omega, h5.1.2⟩, h4.2, by omega, h2, fun x hx => ?_⟩
  have := List.any_eq_false.1 h3 x hx
  simpa using this
set_option maxRecDepth 100000 in
set_option maxHeartbeats 8000000 in
theorem law_visits (HK : Hid Knows) (start gin gout : Int) (beds : List Int) (ba : Option Addr) (bc : Nat) (scores : List Int) (sa : Option Addr) (sc : Nat) (won : Bool) (w : World) (hst : I64 start) (hB : BedA w ba bc beds) (hS : BedA w sa sc scores) :
    Calls Try.prog 3 #[.agg #[.int .i64 start, .int .i64 gin, .int .i64 gout, .slice ba beds.length bc, .slice sa scores.length sc, .bool won]] w fun e w' => e = .returned (.bool true) ∧ Ext w w' := by
  have HB := Lib.hid hB
  have HS := Lib.hid hS
  have HLG := Lib.hid (fun W => law_large start gin gout beds.length scores.length ba sa bc sc won W)
  clear hB hS
  go_enter Try.func3, Try.ntmps3
  go_wp2_with fail
  refine (HLG.out _).mono ?_
  rintro e w1 ⟨rfl, hx1⟩
  obtain ⟨B, hBB⟩ : ∃ y, y = w.heap.size := ⟨_, rfl⟩
  have K1 : Hid (Blk w1 B #[.int .i64 start, .int .i64 gin, .int .i64 gout, .slice ba beds.length bc, .slice sa scores.length sc, .bool won]) := Lib.hid (by rw [hBB]; exact (Blk.new w _ _).ext hx1)
  have HX1 := Lib.hid (((Ext.refl w).alloc _).trans hx1)
  rw [← hBB]
  clear hx1 hBB HLG
  by_cases hbg : BigL beds.length scores.length
  case pos =>
    rw [decide_eq_true hbg]
    go_wp2_with fail
    refine (HK.out _).mono ?_
    rintro e wz ⟨rfl, hxz⟩
    go_wp2
    go_ret
    exact ⟨rfl, HX1.out.trans hxz⟩
  case neg =>
  rw [decide_eq_false hbg]
  have hbl : beds.length ≤ 85 := by unfold BigL at hbg; omega
  have hsl : scores.length ≤ 105 := by unfold BigL at hbg; omega
  have c0 := K1.out.cell 0 (v := .int .i64 start) rfl
  have c1 := K1.out.cell 1 (v := .int .i64 gin) rfl
  have c2 := K1.out.cell 2 (v := .int .i64 gout) rfl
  have c3 := K1.out.cell 3 (v := .slice ba beds.length bc) rfl
  have c4 := K1.out.cell 4 (v := .slice sa scores.length sc) rfl
  have c5 := K1.out.cell 5 (v := .bool won) rfl
  have cl := K1.out.lt
  go_wp2_with fail
  refine (law_copied start gin gout beds ba bc scores sa sc won w1 (HB.out.ext HX1.out) (HS.out.ext HX1.out) (by omega) (by omega)).mono ?_
  rintro e w2 ⟨ia, ic, ja, jc, rfl, hO1, hO2, hx2⟩
  obtain ⟨k3, hk3⟩ : ∃ y, y = w2.heap.size := ⟨_, rfl⟩
  obtain ⟨w3, hw3⟩ : ∃ y, y = w2.alloc (.cells #[.int .i64 start, .int .i64 gin, .int .i64 gout, .slice ia beds.length ic, .slice ja scores.length jc, .bool won] 28) := ⟨_, rfl⟩
  have HX23 : Ext w2 w3 := by rw [hw3]; exact (Ext.refl w2).alloc _
  have HX3 := Lib.hid (HX1.out.trans (hx2.trans HX23))
  have K13 := Lib.hid (K1.out.ext (hx2.trans HX23))
  have K3 : Hid (Blk w3 k3 #[.int .i64 start, .int .i64 gin, .int .i64 gout, .slice ia beds.length ic, .slice ja scores.length jc, .bool won]) := Lib.hid (by rw [hw3, hk3]; exact Blk.new _ _ _)
  have HO1 : Hid (OwnD w3 w1.heap.size (.slice ia beds.length ic) beds) := Lib.hid (hO1.ext HX23)
  have HO2 : Hid (OwnI w3 w1.heap.size (.slice ja scores.length jc) scores) := Lib.hid (hO2.ext HX23)
  have HLR : Hid (LegR ⟨start, gin, gout, beds, scores, won⟩ ia ja ic jc w3) := Lib.hid ⟨HO1.out.rd (fun _ _ h => h), RdI.of_own HO2.out (fun _ _ h => h), HB.out.i64, HS.out.i64, hst⟩
  clear hO1 hO2 hx2 c0 c1 c2 c3 c4 c5 cl
  go_upto_region 4 with fail
  rw [← hw3, ← hk3]
  clear hw3 hk3 HX23
  cases hok : Leg.ok ⟨start, gin, gout, beds, scores, won⟩
  case false =>
    have hck := fun W (hx : Ext w3 W) => mean_Check ⟨start, gin, gout, beds, scores, won⟩ _ W (HLR.out.ext hx).at
    rw [show Leg.err ⟨start, gin, gout, beds, scores, won⟩ = 2 from by unfold Leg.err; rw [hok]; rfl] at hck
    unfold Leg.agg at hck
    dsimp only at hck
    have HCK := Lib.hid hck
    have hrl := fun W (hx : Ext w W) => ref_Leg start gin gout beds ba bc scores sa sc won W (HB.out.cells.ext hx) HB.out.i64 (by omega) (HS.out.cells.ext hx) (by omega)
    rw [hok] at hrl
    have HRL := Lib.hid hrl
    have hmv := fun W (hx : Ext w3 W) => mean_Visits ⟨start, gin, gout, beds, scores, won⟩ ia ja ic jc W (HLR.out.ext hx)
    unfold Leg.agg at hmv
    dsimp only at hmv
    obtain ⟨⟨XS, at_, er⟩, hvst⟩ : ∃ y, vstF ⟨start, gin, gout, beds, scores, won⟩ = y := ⟨_, rfl⟩
    rw [hvst] at hmv
    dsimp only at hmv
    have HMV := Lib.hid hmv
    have HVST := Lib.hid hvst
    clear hck hrl hmv hvst
    have d0 := K3.out.cell 0 (v := .int .i64 start) rfl
    have d1 := K3.out.cell 1 (v := .int .i64 gin) rfl
    have d2 := K3.out.cell 2 (v := .int .i64 gout) rfl
    have d3 := K3.out.cell 3 (v := .slice ia beds.length ic) rfl
    have d4 := K3.out.cell 4 (v := .slice ja scores.length jc) rfl
    have d5 := K3.out.cell 5 (v := .bool won) rfl
    have dl := K3.out.lt
    go_wp2_with fail
    refine (HCK.out _ (Ext.refl _)).mono ?_
    rintro e w4 ⟨rfl, hx4⟩
    have HX4 := Lib.hid hx4
    clear hx4 d0 d1 d2 d3 d4 d5 dl
    have d0 := (K3.out.ext HX4.out).cell 0 (v := .int .i64 start) rfl
    have d1 := (K3.out.ext HX4.out).cell 1 (v := .int .i64 gin) rfl
    have d2 := (K3.out.ext HX4.out).cell 2 (v := .int .i64 gout) rfl
    have d3 := (K3.out.ext HX4.out).cell 3 (v := .slice ia beds.length ic) rfl
    have d4 := (K3.out.ext HX4.out).cell 4 (v := .slice ja scores.length jc) rfl
    have d5 := (K3.out.ext HX4.out).cell 5 (v := .bool won) rfl
    have dl := (K3.out.ext HX4.out).lt
    go_wp2_with fail
    refine (HMV.out _ HX4.out).mono ?_
    rintro e w5 ⟨gv, rfl, hox, hx5⟩
    obtain ⟨ga, gc, rfl⟩ := hox.shape
    have HOX := Lib.hid hox
    have HX5 := Lib.hid (HX4.out.trans hx5)
    have HXw5 := Lib.hid (HX3.out.trans (HX4.out.trans hx5))
    clear hox hx5 d0 d1 d2 d3 d4 d5 dl
    have d0 := (K3.out.ext HX5.out).cell 0 (v := .int .i64 start) rfl
    have d1 := (K3.out.ext HX5.out).cell 1 (v := .int .i64 gin) rfl
    have d2 := (K3.out.ext HX5.out).cell 2 (v := .int .i64 gout) rfl
    have d3 := (K3.out.ext HX5.out).cell 3 (v := .slice ia beds.length ic) rfl
    have d4 := (K3.out.ext HX5.out).cell 4 (v := .slice ja scores.length jc) rfl
    have d5 := (K3.out.ext HX5.out).cell 5 (v := .bool won) rfl
    have dl := (K3.out.ext HX5.out).lt
    have c0 := (K13.out.ext HX5.out).cell 0 (v := .int .i64 start) rfl
    have c1 := (K13.out.ext HX5.out).cell 1 (v := .int .i64 gin) rfl
    have c2 := (K13.out.ext HX5.out).cell 2 (v := .int .i64 gout) rfl
    have c3 := (K13.out.ext HX5.out).cell 3 (v := .slice ba beds.length bc) rfl
    have c4 := (K13.out.ext HX5.out).cell 4 (v := .slice sa scores.length sc) rfl
    have c5 := (K13.out.ext HX5.out).cell 5 (v := .bool won) rfl
    have cl := (K13.out.ext HX5.out).lt
    go_wp2_with fail
    refine (law_unchanged start gin gout won beds scores ia ba ja sa ic bc jc sc w5 ((BedA.own HO1.out HB.out.i64).ext HX5.out) (HB.out.ext HXw5.out) ((BedA.ownI HO2.out HS.out.i64).ext HX5.out).cells (HS.out.cells.ext HXw5.out) (by omega) (by omega)).mono ?_
    rintro e w6 ⟨rfl, hx6⟩
    have HX6 := Lib.hid (HX5.out.trans hx6)
    have HXw6 := Lib.hid (HXw5.out.trans hx6)
    have HX56 := Lib.hid hx6
    clear hx6 d0 d1 d2 d3 d4 d5 dl c0 c1 c2 c3 c4 c5 cl
    have c0 := (K13.out.ext HX6.out).cell 0 (v := .int .i64 start) rfl
    have c1 := (K13.out.ext HX6.out).cell 1 (v := .int .i64 gin) rfl
    have c2 := (K13.out.ext HX6.out).cell 2 (v := .int .i64 gout) rfl
    have c3 := (K13.out.ext HX6.out).cell 3 (v := .slice ba beds.length bc) rfl
    have c4 := (K13.out.ext HX6.out).cell 4 (v := .slice sa scores.length sc) rfl
    have c5 := (K13.out.ext HX6.out).cell 5 (v := .bool won) rfl
    have cl := (K13.out.ext HX6.out).lt
    go_wp2_with fail
    refine (HRL.out _ HXw6.out).mono ?_
    rintro e w7 ⟨rfl, hx7⟩
    have HX7 := Lib.hid (HX6.out.trans hx7)
    have HXw7 := Lib.hid (HXw6.out.trans hx7)
    have HX57 := Lib.hid (HX56.out.trans hx7)
    clear hx7 c0 c1 c2 c3 c4 c5 cl
    have hv2 : XS = [] ∧ at_ = 0 ∧ er = 2 := by have h := HVST.out; unfold vstF at h; rw [if_neg (by rw [hok]; decide)] at h; cases h; exact ⟨rfl, rfl, rfl⟩
    obtain ⟨rfl, rfl, rfl⟩ := hv2
    clear hok
    go_wp2_with fail
    refine (HK.out _).mono ?_
    rintro e wz ⟨rfl, hxz⟩
    go_wp2
    go_ret
    exact ⟨rfl, HXw7.out.trans hxz⟩
  case true =>
    have hck := fun W (hx : Ext w3 W) => mean_Check ⟨start, gin, gout, beds, scores, won⟩ _ W (HLR.out.ext hx).at
    rw [show Leg.err ⟨start, gin, gout, beds, scores, won⟩ = 0 from by unfold Leg.err; rw [hok]; rfl] at hck
    unfold Leg.agg at hck
    dsimp only at hck
    have HCK := Lib.hid hck
    have hrl := fun W (hx : Ext w W) => ref_Leg start gin gout beds ba bc scores sa sc won W (HB.out.cells.ext hx) HB.out.i64 (by omega) (HS.out.cells.ext hx) (by omega)
    rw [hok] at hrl
    have HRL := Lib.hid hrl
    have hmv := fun W (hx : Ext w3 W) => mean_Visits ⟨start, gin, gout, beds, scores, won⟩ ia ja ic jc W (HLR.out.ext hx)
    unfold Leg.agg at hmv
    dsimp only at hmv
    obtain ⟨⟨XS, at_, er⟩, hvst⟩ : ∃ y, vstF ⟨start, gin, gout, beds, scores, won⟩ = y := ⟨_, rfl⟩
    rw [hvst] at hmv
    dsimp only at hmv
    have HMV := Lib.hid hmv
    have HVST := Lib.hid hvst
    clear hck hrl hmv hvst
    have d0 := K3.out.cell 0 (v := .int .i64 start) rfl
    have d1 := K3.out.cell 1 (v := .int .i64 gin) rfl
    have d2 := K3.out.cell 2 (v := .int .i64 gout) rfl
    have d3 := K3.out.cell 3 (v := .slice ia beds.length ic) rfl
    have d4 := K3.out.cell 4 (v := .slice ja scores.length jc) rfl
    have d5 := K3.out.cell 5 (v := .bool won) rfl
    have dl := K3.out.lt
    go_wp2_with fail
    refine (HCK.out _ (Ext.refl _)).mono ?_
    rintro e w4 ⟨rfl, hx4⟩
    have HX4 := Lib.hid hx4
    clear hx4 d0 d1 d2 d3 d4 d5 dl
    have d0 := (K3.out.ext HX4.out).cell 0 (v := .int .i64 start) rfl
    have d1 := (K3.out.ext HX4.out).cell 1 (v := .int .i64 gin) rfl
    have d2 := (K3.out.ext HX4.out).cell 2 (v := .int .i64 gout) rfl
    have d3 := (K3.out.ext HX4.out).cell 3 (v := .slice ia beds.length ic) rfl
    have d4 := (K3.out.ext HX4.out).cell 4 (v := .slice ja scores.length jc) rfl
    have d5 := (K3.out.ext HX4.out).cell 5 (v := .bool won) rfl
    have dl := (K3.out.ext HX4.out).lt
    go_wp2_with fail
    refine (HMV.out _ HX4.out).mono ?_
    rintro e w5 ⟨gv, rfl, hox, hx5⟩
    obtain ⟨ga, gc, rfl⟩ := hox.shape
    have HOX := Lib.hid hox
    have HX5 := Lib.hid (HX4.out.trans hx5)
    have HXw5 := Lib.hid (HX3.out.trans (HX4.out.trans hx5))
    clear hox hx5 d0 d1 d2 d3 d4 d5 dl
    have d0 := (K3.out.ext HX5.out).cell 0 (v := .int .i64 start) rfl
    have d1 := (K3.out.ext HX5.out).cell 1 (v := .int .i64 gin) rfl
    have d2 := (K3.out.ext HX5.out).cell 2 (v := .int .i64 gout) rfl
    have d3 := (K3.out.ext HX5.out).cell 3 (v := .slice ia beds.length ic) rfl
    have d4 := (K3.out.ext HX5.out).cell 4 (v := .slice ja scores.length jc) rfl
    have d5 := (K3.out.ext HX5.out).cell 5 (v := .bool won) rfl
    have dl := (K3.out.ext HX5.out).lt
    have c0 := (K13.out.ext HX5.out).cell 0 (v := .int .i64 start) rfl
    have c1 := (K13.out.ext HX5.out).cell 1 (v := .int .i64 gin) rfl
    have c2 := (K13.out.ext HX5.out).cell 2 (v := .int .i64 gout) rfl
    have c3 := (K13.out.ext HX5.out).cell 3 (v := .slice ba beds.length bc) rfl
    have c4 := (K13.out.ext HX5.out).cell 4 (v := .slice sa scores.length sc) rfl
    have c5 := (K13.out.ext HX5.out).cell 5 (v := .bool won) rfl
    have cl := (K13.out.ext HX5.out).lt
    go_wp2_with fail
    refine (law_unchanged start gin gout won beds scores ia ba ja sa ic bc jc sc w5 ((BedA.own HO1.out HB.out.i64).ext HX5.out) (HB.out.ext HXw5.out) ((BedA.ownI HO2.out HS.out.i64).ext HX5.out).cells (HS.out.cells.ext HXw5.out) (by omega) (by omega)).mono ?_
    rintro e w6 ⟨rfl, hx6⟩
    have HX6 := Lib.hid (HX5.out.trans hx6)
    have HXw6 := Lib.hid (HXw5.out.trans hx6)
    have HX56 := Lib.hid hx6
    clear hx6 d0 d1 d2 d3 d4 d5 dl c0 c1 c2 c3 c4 c5 cl
    have c0 := (K13.out.ext HX6.out).cell 0 (v := .int .i64 start) rfl
    have c1 := (K13.out.ext HX6.out).cell 1 (v := .int .i64 gin) rfl
    have c2 := (K13.out.ext HX6.out).cell 2 (v := .int .i64 gout) rfl
    have c3 := (K13.out.ext HX6.out).cell 3 (v := .slice ba beds.length bc) rfl
    have c4 := (K13.out.ext HX6.out).cell 4 (v := .slice sa scores.length sc) rfl
    have c5 := (K13.out.ext HX6.out).cell 5 (v := .bool won) rfl
    have cl := (K13.out.ext HX6.out).lt
    go_wp2_with fail
    refine (HRL.out _ HXw6.out).mono ?_
    rintro e w7 ⟨rfl, hx7⟩
    have HX7 := Lib.hid (HX6.out.trans hx7)
    have HXw7 := Lib.hid (HXw6.out.trans hx7)
    have HX57 := Lib.hid (HX56.out.trans hx7)
    clear hx7 c0 c1 c2 c3 c4 c5 cl
    have hv2 : (XS, at_, er) = (match rvG gin gout beds (goT start scores won scores.length) 0 with | .inl r => ([] ++ r.map spnF, 0, 0) | .inr n => ([], (n : Int), 7)) := by
      rw [← HVST.out]
      unfold vstF
      rw [if_pos hok]
      exact visG_rv gin gout beds (goT start scores won scores.length) []
    obtain ⟨p1, p2, p3, p4, p5, p6, p7⟩ := ok_parts hok
    have hn9 : beds.length ≤ 9 := by unfold BigL at hbg; omega
    have hrv := fun W (hx : Ext w W) => ref_Visits start gin gout beds ba bc scores sa sc won W p1 p2 p3 p4 hn9 (by omega) (fun x hx => ⟨p7 x hx, HS.out.i64 x hx⟩) (HB.out.cells.ext hx) (HS.out.cells.ext hx)
    obtain ⟨R, hR⟩ : ∃ y, rvG gin gout beds (goT start scores won scores.length) 0 = y := ⟨_, rfl⟩
    rw [hR] at hv2 hrv
    have HRV := Lib.hid hrv
    have HR := Lib.hid hR
    clear hrv hR hok
    have c0 := (K13.out.ext HX7.out).cell 0 (v := .int .i64 start) rfl
    have c1 := (K13.out.ext HX7.out).cell 1 (v := .int .i64 gin) rfl
    have c2 := (K13.out.ext HX7.out).cell 2 (v := .int .i64 gout) rfl
    have c3 := (K13.out.ext HX7.out).cell 3 (v := .slice ba beds.length bc) rfl
    have c4 := (K13.out.ext HX7.out).cell 4 (v := .slice sa scores.length sc) rfl
    have c5 := (K13.out.ext HX7.out).cell 5 (v := .bool won) rfl
    have cl := (K13.out.ext HX7.out).lt
    cases R with
    | inr n =>
      obtain ⟨rfl, rfl, rfl⟩ : XS = [] ∧ at_ = (n : Int) ∧ er = 7 := by cases hv2; exact ⟨rfl, rfl, rfl⟩
      go_wp2_with fail
      refine (HRV.out _ HXw7.out).mono ?_
      rintro e w8 ⟨he, hx8⟩
      have he : e = .returned (.tuple #[.slice none 0 0, .int .i64 n, .bool false]) := he
      subst he
      have HXw8 := Lib.hid (HXw7.out.trans hx8)
      clear hx8 c0 c1 c2 c3 c4 c5 cl hv2
      go_wp2_with fail
      refine (HK.out _).mono ?_
      rintro e wz ⟨rfl, hxz⟩
      go_wp2
      go_ret
      exact ⟨rfl, HXw8.out.trans hxz⟩
    | inl ls =>
      obtain ⟨rfl, rfl, rfl⟩ : XS = ls.map spnF ∧ at_ = 0 ∧ er = 0 := by cases hv2; exact ⟨rfl, rfl, rfl⟩
      obtain ⟨hlen, hmem⟩ := rvG_inl _ _ _ HR.out
      rw [goT_len] at hlen
      have hsz : ∀ l ∈ ls, l.length ≤ 1000000 ∧ ∀ x ∈ l, x.beds.length ≤ 1000 := fun l hl => by
        obtain ⟨s, -, rfl⟩ := hmem l hl
        refine ⟨Nat.le_trans (allF_len hn9 3 _ _ _ _ _) (by decide), fun x hx => ?_⟩
        have h := allF_beds 3 _ _ _ _ _ x hx
        simp only [List.length_nil] at h
        omega
      have HSZ := Lib.hid hsz
      have HLEN : Hid (ls.length ≤ 1000) := Lib.hid (by omega)
      clear hv2 hlen hmem hsz
      go_wp2_with fail
      refine (HRV.out _ HXw7.out).mono ?_
      rintro e w8 ⟨he, hx8⟩
      obtain ⟨rv, b2, he, hvr, -⟩ := he
      subst he
      obtain ⟨ra, rc, rfl⟩ := hvr.shape
      have HVR := Lib.hid hvr
      have HXw8 := Lib.hid (HXw7.out.trans hx8)
      have HX58 := Lib.hid (HX57.out.trans hx8)
      clear hx8 hvr c0 c1 c2 c3 c4 c5 cl
      have hsp := ref_Spans ls _ _ b2 w8 HVR.out HLEN.out HSZ.out
      have HSP := Lib.hid hsp
      clear hsp
      go_wp2_with fail
      refine HSP.out.mono ?_
      rintro e w9 ⟨sv, rfl, hos, hx9⟩
      obtain ⟨xa, xc, rfl⟩ := hos.shape
      have HOS := Lib.hid hos
      have HXw9 := Lib.hid (HXw8.out.trans hx9)
      have HOX9 := Lib.hid (HOX.out.ext (HX58.out.trans hx9))
      clear hos hx9
      obtain ⟨n, hn0⟩ : ∃ n, ls.length = n := ⟨_, rfl⟩
      have hn : (ls.map spnF).length = n := by rw [List.length_map, hn0]
      have HN := Lib.hid hn
      have hn1000 : n ≤ 1000 := by rw [← hn0]; exact HLEN.out
      have HOX' : Hid (w9.ownsRow w4.heap.size 45 4 (.slice ga n gc) n ((ls.map spnF).flatMap Ex.four)) := Lib.hid (by have h := HOX9.out; unfold OwnX at h; rw [hn] at h; exact h)
      have HOS' : Hid (w9.ownsRow w8.heap.size 45 4 (.slice xa n xc) n ((ls.map spnF).flatMap Ex.four)) := Lib.hid (by have h := HOS.out; unfold OwnX at h; rw [hn] at h; exact h)
      simp only [List.length_map]
      rw [hn0]
      clear hn hn0
      go_wp2
      go_loopw [12] (fun i wr => ∃ k : Nat, k ≤ n ∧ i = .int .i64 k ∧ Ext w9 wr) (fun i _ => n - (intOf i).toNat)
      case atStart => exact ⟨0, Nat.zero_le _, rfl, Ext.refl w9⟩
      case round =>
        obtain ⟨k, hk, rfl, hx⟩ := hrel
        have HX := Lib.hid hx
        clear hx
        by_cases hlt : k < n
        · have h1 : OwnX wr w4.heap.size (.slice ga (ls.map spnF).length gc) (ls.map spnF) := by rw [HN.out]; unfold OwnX; rw [HN.out]; exact own_chg HOX'.out (HX.out.chg fun _ => False) fun _ _ => id
          have h2 : OwnX wr w8.heap.size (.slice xa (ls.map spnF).length xc) (ls.map spnF) := by rw [HN.out]; unfold OwnX; rw [HN.out]; exact own_chg HOS'.out (HX.out.chg fun _ => False) fun _ _ => id
          obtain ⟨g1, q1, e1, -, l1, f1⟩ := h1.at k (by rw [HN.out]; exact hlt)
          obtain ⟨g2, q2, e2, -, l2, f2⟩ := h2.at k (by rw [HN.out]; exact hlt)
          cases e1
          cases e2
          obtain ⟨⟨dl, dh, tl, th, so⟩, hxx⟩ : ∃ y, (ls.map spnF)[k]'(by rw [HN.out]; exact hlt) = y := ⟨_, rfl⟩
          rw [hxx] at f1 f2
          have a0 : ∀ y : Later wr, y.world.cell? ⟨g1, k * 4, none⟩ = some (.int .i64 dl) := fun y => y.ext.cell (f1 0 _ rfl)
          have a1 : ∀ y : Later wr, y.world.cell? ⟨g1, k * 4 + 1, none⟩ = some (.int .i64 dh) := fun y => y.ext.cell (f1 1 _ rfl)
          have a2 : ∀ y : Later wr, y.world.cell? ⟨g1, k * 4 + 2, none⟩ = some (.int .i64 tl) := fun y => y.ext.cell (f1 2 _ rfl)
          have a3 : ∀ y : Later wr, y.world.cell? ⟨g1, k * 4 + 3, none⟩ = some (.int .i64 th) := fun y => y.ext.cell (f1 3 _ rfl)
          have b0 : ∀ y : Later wr, y.world.cell? ⟨g2, k * 4, none⟩ = some (.int .i64 dl) := fun y => y.ext.cell (f2 0 _ rfl)
          have b1 : ∀ y : Later wr, y.world.cell? ⟨g2, k * 4 + 1, none⟩ = some (.int .i64 dh) := fun y => y.ext.cell (f2 1 _ rfl)
          have b2' : ∀ y : Later wr, y.world.cell? ⟨g2, k * 4 + 2, none⟩ = some (.int .i64 tl) := fun y => y.ext.cell (f2 2 _ rfl)
          have b3 : ∀ y : Later wr, y.world.cell? ⟨g2, k * 4 + 3, none⟩ = some (.int .i64 th) := fun y => y.ext.cell (f2 3 _ rfl)
          have he := fun W => eqMv dl dh tl th W
          clear f1 f2 hxx h1 h2
          go_upto_region 19 with fail
          refine wp_region_later (by kernel_rfl) (by kernel_rfl) ?_
          repeat (go_big_quiet_step (fail))
          refine wpQuiet_nil ?_
          intro w10 hw10
          obtain ⟨⟨w10, hx10⟩, rfl⟩ := hw10
          have HX10 := Lib.hid (HX.out.trans hx10)
          clear hx10 a0 a1 a2 a3 b0 b1 b2' b3 l1 l2 he
          go_wp2
          go_roundw
          case rel => exact ⟨k + 1, by omega, by go_num, HX10.out⟩
          case measure => simp [intOf]; omega
        · obtain rfl : k = n := by omega
          go_wp2_with fail
          refine (HK.out _).mono ?_
          rintro e wz ⟨rfl, hxz⟩
          go_wp2
          go_ret
          exact ⟨rfl, (HXw9.out.trans HX.out).trans hxz⟩
end Go.Proofs.Ytmopadnkjlodnaa
