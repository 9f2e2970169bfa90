/-
  MeanShows, walked.
-/
import Derived.Test.YtmopadnkjlodnaaRsh
import Derived.Test.YtmopadnkjlodnaaRle
import Derived.Test.YtmopadnkjlodnaaMsh
import Derived.Test.YtmopadnkjlodnaaLsp
namespace Go.Proofs.Ytmopadnkjlodnaa
open Go.RowKit Go.BigFrame
attribute [local go_sem] Later.cell Later.frozen
set_option maxRecDepth 100000 in
set_option maxHeartbeats 8000000 in
theorem law_shows (HK : Hid Knows) (start gin gout : Int) (beds : List Int) (ba : Option Addr) (bc : Nat) (scores : List Int) (sa : Option Addr) (sc : Nat) (won : Bool) (en : Int) (w : World) (hst : I64 start) (hB : BedA w ba bc beds) (hS : BedA w sa sc scores) :
    Calls Try.prog 4 #[.agg #[.int .i64 start, .int .i64 gin, .int .i64 gout, .slice ba beds.length bc, .slice sa scores.length sc, .bool won], .int .i64 en] w fun e w' => e = .returned (.bool true) ∧ Ext w w' := by
  have HB := Lib.hid hB
  have HS := Lib.hid hS
  have HLG := Lib.hid (fun W => law_large start gin gout beds.length scores.length ba sa bc sc won W)
  clear hB hS
  go_enter Try.func4, Try.ntmps4
  go_wp2_with fail
  refine (HLG.out _).mono ?_
  rintro e w1 ⟨rfl, hx1⟩
  obtain ⟨B, hBB⟩ : ∃ y, y = w.heap.size := ⟨_, rfl⟩
  have K1 : Hid (Blk w1 B #[.int .i64 start, .int .i64 gin, .int .i64 gout, .slice ba beds.length bc, .slice sa scores.length sc, .bool won]) := Lib.hid (by rw [hBB]; exact (Blk.new w _ _).ext hx1)
  have HX1 := Lib.hid (((Ext.refl w).alloc _).trans hx1)
  rw [← hBB]
  clear hx1 hBB HLG
  by_cases hbg : BigL beds.length scores.length
  case pos =>
    rw [decide_eq_true hbg]
    go_wp2_with fail
    refine (HK.out _).mono ?_
    rintro e wz ⟨rfl, hxz⟩
    go_wp2
    go_ret
    exact ⟨rfl, HX1.out.trans hxz⟩
  case neg =>
  rw [decide_eq_false hbg]
  have hbl : beds.length ≤ 85 := by unfold BigL at hbg; omega
  have hsl : scores.length ≤ 105 := by unfold BigL at hbg; omega
  have c0 := K1.out.cell 0 (v := .int .i64 start) rfl
  have c1 := K1.out.cell 1 (v := .int .i64 gin) rfl
  have c2 := K1.out.cell 2 (v := .int .i64 gout) rfl
  have c3 := K1.out.cell 3 (v := .slice ba beds.length bc) rfl
  have c4 := K1.out.cell 4 (v := .slice sa scores.length sc) rfl
  have c5 := K1.out.cell 5 (v := .bool won) rfl
  have cl := K1.out.lt
  go_wp2_with fail
  refine (law_copied start gin gout beds ba bc scores sa sc won w1 (HB.out.ext HX1.out) (HS.out.ext HX1.out) (by omega) (by omega)).mono ?_
  rintro e w2 ⟨ia, ic, ja, jc, rfl, hO1, hO2, hx2⟩
  have HX2 := Lib.hid (HX1.out.trans hx2)
  have K12 := Lib.hid (K1.out.ext hx2)
  have HLR : Hid (LegR ⟨start, gin, gout, beds, scores, won⟩ ia ja ic jc w2) := Lib.hid ⟨hO1.rd (fun _ _ h => h), RdI.of_own hO2 (fun _ _ h => h), HB.out.i64, HS.out.i64, hst⟩
  clear hO1 hO2 hx2 c0 c1 c2 c3 c4 c5 cl
  cases hok : Leg.ok ⟨start, gin, gout, beds, scores, won⟩
  case false =>
    have hrl := fun W (hx : Ext w W) => ref_Leg start gin gout beds ba bc scores sa sc won W (HB.out.cells.ext hx) HB.out.i64 (by omega) (HS.out.cells.ext hx) (by omega)
    rw [hok] at hrl
    have HRL := Lib.hid hrl
    have hmv := fun W (hx : Ext w2 W) => mean_Show ⟨start, gin, gout, beds, scores, won⟩ en ia ja ic jc W (HLR.out.ext hx)
    unfold Leg.agg at hmv
    dsimp only at hmv
    obtain ⟨⟨WS, at_, er⟩, hvst⟩ : ∃ y, shwS ⟨start, gin, gout, beds, scores, won⟩ en = y := ⟨_, rfl⟩
    rw [hvst] at hmv
    dsimp only at hmv
    have HMV := Lib.hid hmv
    have HVST := Lib.hid hvst
    clear hrl hmv hvst
    go_wp2_with fail
    refine (HMV.out _ (Ext.refl _)).mono ?_
    rintro e w5 ⟨gv, rfl, hox, hx5⟩
    obtain ⟨ga, gc, rfl⟩ := hox.shape
    have HOX := Lib.hid hox
    have HX5 := Lib.hid hx5
    have HXw5 := Lib.hid (HX2.out.trans hx5)
    clear hox hx5
    have c0 := (K12.out.ext HX5.out).cell 0 (v := .int .i64 start) rfl
    have c1 := (K12.out.ext HX5.out).cell 1 (v := .int .i64 gin) rfl
    have c2 := (K12.out.ext HX5.out).cell 2 (v := .int .i64 gout) rfl
    have c3 := (K12.out.ext HX5.out).cell 3 (v := .slice ba beds.length bc) rfl
    have c4 := (K12.out.ext HX5.out).cell 4 (v := .slice sa scores.length sc) rfl
    have c5 := (K12.out.ext HX5.out).cell 5 (v := .bool won) rfl
    have cl := (K12.out.ext HX5.out).lt
    go_wp2_with fail
    refine (HRL.out _ HXw5.out).mono ?_
    rintro e w7 ⟨rfl, hx7⟩
    have HX7 := Lib.hid (HX5.out.trans hx7)
    have HXw7 := Lib.hid (HXw5.out.trans hx7)
    have HX57 := Lib.hid hx7
    clear hx7 c0 c1 c2 c3 c4 c5 cl
    have hv2 : WS = [] ∧ at_ = 0 ∧ er = 2 := by have h := HVST.out; unfold shwS at h; rw [if_pos hok] at h; cases h; exact ⟨rfl, rfl, rfl⟩
    obtain ⟨rfl, rfl, rfl⟩ := hv2
    clear hok
    go_wp2_with fail
    refine (HK.out _).mono ?_
    rintro e wz ⟨rfl, hxz⟩
    go_wp2
    go_ret
    exact ⟨rfl, HXw7.out.trans hxz⟩
  case true =>
    have hrl := fun W (hx : Ext w W) => ref_Leg start gin gout beds ba bc scores sa sc won W (HB.out.cells.ext hx) HB.out.i64 (by omega) (HS.out.cells.ext hx) (by omega)
    rw [hok] at hrl
    have HRL := Lib.hid hrl
    have hmv := fun W (hx : Ext w2 W) => mean_Show ⟨start, gin, gout, beds, scores, won⟩ en ia ja ic jc W (HLR.out.ext hx)
    unfold Leg.agg at hmv
    dsimp only at hmv
    obtain ⟨⟨WS, at_, er⟩, hvst⟩ : ∃ y, shwS ⟨start, gin, gout, beds, scores, won⟩ en = y := ⟨_, rfl⟩
    rw [hvst] at hmv
    dsimp only at hmv
    have HMV := Lib.hid hmv
    have HVST := Lib.hid hvst
    clear hrl hmv hvst
    go_wp2_with fail
    refine (HMV.out _ (Ext.refl _)).mono ?_
    rintro e w5 ⟨gv, rfl, hox, hx5⟩
    obtain ⟨ga, gc, rfl⟩ := hox.shape
    have HOX := Lib.hid hox
    have HX5 := Lib.hid hx5
    have HXw5 := Lib.hid (HX2.out.trans hx5)
    clear hox hx5
    have c0 := (K12.out.ext HX5.out).cell 0 (v := .int .i64 start) rfl
    have c1 := (K12.out.ext HX5.out).cell 1 (v := .int .i64 gin) rfl
    have c2 := (K12.out.ext HX5.out).cell 2 (v := .int .i64 gout) rfl
    have c3 := (K12.out.ext HX5.out).cell 3 (v := .slice ba beds.length bc) rfl
    have c4 := (K12.out.ext HX5.out).cell 4 (v := .slice sa scores.length sc) rfl
    have c5 := (K12.out.ext HX5.out).cell 5 (v := .bool won) rfl
    have cl := (K12.out.ext HX5.out).lt
    go_wp2_with fail
    refine (HRL.out _ HXw5.out).mono ?_
    rintro e w7 ⟨rfl, hx7⟩
    have HX7 := Lib.hid (HX5.out.trans hx7)
    have HXw7 := Lib.hid (HXw5.out.trans hx7)
    have HX57 := Lib.hid hx7
    clear hx7 c0 c1 c2 c3 c4 c5 cl
    have hri := fun W => ref_In en 1 4 W
    by_cases hen : 1 ≤ en ∧ en ≤ 4
    case neg =>
      have hv2 : WS = [] ∧ at_ = 0 ∧ er = 3 := by have h := HVST.out; unfold shwS at h; rw [if_neg (by rw [hok]; decide), if_pos (by omega)] at h; cases h; exact ⟨rfl, rfl, rfl⟩
      obtain ⟨rfl, rfl, rfl⟩ := hv2
      rw [show inB en 1 4 = false by unfold inB; rw [← Bool.decide_and]; exact decide_eq_false hen] at hri
      have HRI := Lib.hid hri
      clear hok hri hen
      go_wp2_with fail
      refine (HRI.out _).mono ?_
      rintro e w8 ⟨rfl, hx8⟩
      have HXw8 := Lib.hid (HXw7.out.trans hx8)
      clear hx8
      go_wp2_with fail
      refine (HK.out _).mono ?_
      rintro e wz ⟨rfl, hxz⟩
      go_wp2
      go_ret
      exact ⟨rfl, HXw8.out.trans hxz⟩
    case pos =>
    rw [show inB en 1 4 = true by unfold inB; rw [← Bool.decide_and]; exact decide_eq_true hen] at hri
    have HRI := Lib.hid hri
    have HEN := Lib.hid hen
    have hv2 := shw_rv hok hen
    rw [HVST.out] at hv2
    obtain ⟨p1, p2, p3, p4, p5, p6, p7⟩ := ok_parts hok
    have hn9 : beds.length ≤ 9 := by unfold BigL at hbg; omega
    have hrv := fun W (hx : Ext w W) => ref_Visits start gin gout beds ba bc scores sa sc won W p1 p2 p3 p4 hn9 (by omega) (fun x hx => ⟨p7 x hx, HS.out.i64 x hx⟩) (HB.out.cells.ext hx) (HS.out.cells.ext hx)
    obtain ⟨R, hR⟩ : ∃ y, rvG gin gout beds (goT start scores won scores.length) 0 = y := ⟨_, rfl⟩
    rw [hR] at hv2 hrv
    have HRV := Lib.hid hrv
    have HR := Lib.hid hR
    have HV2 := Lib.hid hv2
    clear hrv hR hok hri hen hv2
    go_wp2_with fail
    refine (HRI.out _).mono ?_
    rintro e w8 ⟨rfl, hx8⟩
    have HXw8 := Lib.hid (HXw7.out.trans hx8)
    have HX58 := Lib.hid (HX57.out.trans hx8)
    clear hx8
    have c0 := (K12.out.ext (HX5.out.trans HX58.out)).cell 0 (v := .int .i64 start) rfl
    have c1 := (K12.out.ext (HX5.out.trans HX58.out)).cell 1 (v := .int .i64 gin) rfl
    have c2 := (K12.out.ext (HX5.out.trans HX58.out)).cell 2 (v := .int .i64 gout) rfl
    have c3 := (K12.out.ext (HX5.out.trans HX58.out)).cell 3 (v := .slice ba beds.length bc) rfl
    have c4 := (K12.out.ext (HX5.out.trans HX58.out)).cell 4 (v := .slice sa scores.length sc) rfl
    have c5 := (K12.out.ext (HX5.out.trans HX58.out)).cell 5 (v := .bool won) rfl
    have cl := (K12.out.ext (HX5.out.trans HX58.out)).lt
    cases R with
    | inr n =>
      obtain ⟨rfl, rfl, rfl⟩ : WS = [] ∧ at_ = (n : Int) ∧ er = 7 := by cases HV2.out; exact ⟨rfl, rfl, rfl⟩
      go_wp2_with fail
      refine (HRV.out _ HXw8.out).mono ?_
      rintro e w9 ⟨he, hx9⟩
      have he : e = .returned (.tuple #[.slice none 0 0, .int .i64 n, .bool false]) := he
      subst he
      have HXw9 := Lib.hid (HXw8.out.trans hx9)
      clear hx9 c0 c1 c2 c3 c4 c5 cl HV2
      go_wp2_with fail
      refine (HK.out _).mono ?_
      rintro e wz ⟨rfl, hxz⟩
      go_wp2
      go_ret
      exact ⟨rfl, HXw9.out.trans hxz⟩
    | inl ls =>
      obtain ⟨rfl, rfl, rfl⟩ : WS = ls.map (shoB en) ∧ at_ = 0 ∧ er = 0 := by cases HV2.out; exact ⟨rfl, rfl, rfl⟩
      obtain ⟨hlen, hmem⟩ := rvG_inl _ _ _ HR.out
      rw [goT_len] at hlen
      have HNE := Lib.hid (rvG_ne _ _ _ HR.out)
      have hsz : ∀ l ∈ ls, l ≠ [] ∧ l.length ≤ 1000000 ∧ ∀ x ∈ l, x.beds.length ≤ 1000 ∧ (0 ≤ x.tried ∧ x.tried ≤ 1000) := fun l hl => by
        have hne := HNE.out l hl
        obtain ⟨s, -, rfl⟩ := hmem l hl
        refine ⟨hne, Nat.le_trans (allF_len hn9 3 _ _ _ _ _) (by decide), fun x hx => ?_⟩
        have h := allF_beds 3 _ _ _ _ _ x hx
        have h2 := allF_tried 3 _ _ _ _ _ x hx
        have h3 := allF_tr 3 _ _ _ _ _ x hx
        simp only [List.length_nil] at h
        omega
      have hi : ∀ x ∈ ls.map (shoB en), (∀ y ∈ x, I64 y) ∧ x.length ≤ 1000 := fun x hx => by
        obtain ⟨l, hl, rfl⟩ := List.mem_map.1 hx
        obtain ⟨s, -, rfl⟩ := hmem l hl
        have h := sho_all (gin := gin) (gout := gout) (beds := beds) en s
        refine ⟨fun y hy => ?_, by omega⟩
        rcases List.mem_cons.1 (h.1 y hy) with rfl | h'
        · exact ⟨by decide, by decide⟩
        · exact HB.out.i64 y h'
      have HI := Lib.hid hi
      have HSZ := Lib.hid hsz
      have HLEN : Hid (ls.length ≤ 1000) := Lib.hid (by omega)
      clear HV2 hlen hmem hsz hi
      go_wp2_with fail
      refine (HRV.out _ HXw8.out).mono ?_
      rintro e w9 ⟨he, hx9⟩
      obtain ⟨rv, b2, he, hvr, -⟩ := he
      subst he
      obtain ⟨ra, rc, rfl⟩ := hvr.shape
      have HVR := Lib.hid hvr
      have HXw9 := Lib.hid (HXw8.out.trans hx9)
      have HX59 := Lib.hid (HX58.out.trans hx9)
      clear hx9 hvr c0 c1 c2 c3 c4 c5 cl
      have hsp := ref_Show ls _ en _ b2 w9 HEN.out HVR.out HLEN.out HSZ.out
      have HSP := Lib.hid hsp
      clear hsp
      go_wp2_with fail
      refine HSP.out.mono ?_
      rintro e w10 ⟨sv, rfl, hos, hx10⟩
      obtain ⟨xa, xc, rfl⟩ := hos.shape
      have HOS := Lib.hid hos
      have HXw10 := Lib.hid (HXw9.out.trans hx10)
      have HOX10 := Lib.hid (HOX.out.ext (HX59.out.trans hx10))
      clear hos hx10
      have hsm := ref_Same (ls.map (shoB en)) (ls.map (shoB en)) ga xa gc xc w10
        (by obtain ⟨a', c', e', h'⟩ := ways_vsa HOX10.out (fun x hx => (HI.out x hx).1); cases e'; exact h'.vss (fun x hx => (HI.out x hx).2))
        (by obtain ⟨a', c', e', h'⟩ := ways_vsa HOS.out (fun x hx => (HI.out x hx).1); cases e'; exact h'.vss (fun x hx => (HI.out x hx).2))
        (by rw [List.length_map]; exact Nat.le_trans HLEN.out (by decide))
      rw [decide_eq_true rfl, List.length_map] at hsm
      have HSM := Lib.hid hsm
      clear hsm
      go_wp2_with fail
      refine HSM.out.mono ?_
      rintro e w11 ⟨rfl, hx11⟩
      have HXw11 := Lib.hid (HXw10.out.trans hx11)
      clear hx11
      go_wp2_with fail
      refine (HK.out _).mono ?_
      rintro e wz ⟨rfl, hxz⟩
      go_wp2
      go_ret
      exact ⟨rfl, HXw11.out.trans hxz⟩
end Go.Proofs.Ytmopadnkjlodnaa
