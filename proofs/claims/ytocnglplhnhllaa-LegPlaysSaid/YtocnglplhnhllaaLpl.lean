/-
  The statement LegPlays: walked.
-/
import Derived.Test.YtocnglplhnhllaaVit
import Derived.Test.YtocnglplhnhllaaUnc
import Derived.Test.YtocnglplhnhllaaRfp
import Derived.Test.YtocnglplhnhllaaSml
import Derived.Test.YtocnglplhnhllaaKno
namespace Go.Proofs.Ytocnglplhnhllaa
open Go.RowKit Go.BigFrame
attribute [local go_sem] Later.cell Later.frozen Lat.cell Lat.frozen
set_option maxRecDepth 100000 in
set_option maxHeartbeats 16000000 in
theorem law_LegPlays (r : Rul) (ca : Option Addr) (cc : Nat) (l : List LV) (la : Option Addr) (lc : Nat) (w : World) (hC : CntsAt w ca r.counts) (hn : ca = none → r.counts.length = 0 ∧ cc = 0) (hl : r.counts.length ≤ 9223372036854775807)
    (hV : VisIn w la l) (hf : ∀ v ∈ l, v.fits) (hll : l.length ≤ 9223372036854775807) :
    Calls Try.prog 4 #[.agg #[.slice ca r.counts.length cc, .int .i64 r.first, .int .i64 r.rounds, .bool r.equal], .slice la l.length lc] w fun e w' => e = .returned (.bool true) ∧ Ext w w' := by
  have HC := Lib.hid hC
  have HN := Lib.hid hn
  have HV := Lib.hid hV
  have HF := Lib.hid hf
  have HL := Lib.hid (fun W hW => law_long r ca cc l la lc W hl (hV.vis.ext hW) (fun v hv => (hf v hv).2.2) hll)
  clear hC hn hV hf
  cases hlo : longS r.counts.length l
  · have hb := longS_false hlo
    have hb1 := hb.2.1
    have hb2 := hb.2.2.2
    have HB := Lib.hid hb.1
    clear hb
    have hRu := fun W (hW : Ext w W) => law_rules r ca cc W (HC.out.ext hW) (by omega) HN.out
    have HRu := Lib.hid hRu
    have hVi := fun W (hW : Ext w W) => law_visits l la lc W (HV.out.ext hW) (by omega) (fun v hv => by have := HB.out v hv; omega)
    have HVi := Lib.hid hVi
    clear hRu hVi
    go_enter Try.func4, Try.ntmps4
    go_wp2_with fail
    refine (HL.out _ (by exact (Ext.refl w).alloc _)).mono ?_
    rintro e w1 ⟨rfl, hx1⟩
    rw [hlo]
    have hE1 := Ext.trans ((Ext.refl w).alloc (.cells #[.slice ca r.counts.length cc, .int .i64 r.first, .int .i64 r.rounds, .bool r.equal] 42)) hx1
    have hM1 : Blk w1 w.heap.size #[.slice ca r.counts.length cc, .int .i64 r.first, .int .i64 r.rounds, .bool r.equal] := (Blk.new w _ _).ext hx1
    have HM1 := Lib.hid hM1
    have m0 := hM1.cell 0 (v := .slice ca r.counts.length cc) rfl
    have m1 := hM1.cell 1 (v := .int .i64 r.first) rfl
    have m2 := hM1.cell 2 (v := .int .i64 r.rounds) rfl
    have m3 := hM1.cell 3 (v := .bool r.equal) rfl
    clear hM1 hx1
    go_wp2_with fail
    refine (HRu.out _ hE1).mono ?_
    rintro e w2 ⟨a2, c2, rfl, hO2, hC2, hx2⟩
    have hE2 := hE1.trans hx2
    have HM2 := Lib.hid (HM1.out.ext hx2)
    have HC2 := Lib.hid hC2
    clear hO2 hC2 m0 m1 m2 m3 HM1 hE1 hx2
    go_wp2_with fail
    refine (HVi.out _ hE2).mono ?_
    rintro e w3 ⟨v3, us3, rfl, hO3, hx3⟩
    obtain ⟨va3, vc3, rfl, hv3⟩ := hO3.vis
    have hE3 := hE2.trans hx3
    have HM3 := Lib.hid (HM2.out.ext hx3)
    have HC3 := Lib.hid (HC2.out.ext hx3)
    have HV3 := Lib.hid hv3
    have hT3 := (Ext.refl w3).alloc (.cells #[.slice a2 r.counts.length c2, .int .i64 r.first, .int .i64 r.rounds, .bool r.equal] 42)
    have hCk := leg_Check r a2 c2 _ (HC3.out.ext hT3) hl
    have HCk := Lib.hid hCk
    clear hO3 hv3 hCk HM2 HC2 hE2 hx3
    go_wp2_with fail
    refine HCk.out.mono ?_
    rintro e w4 ⟨rfl, hx4⟩
    have hE4 := (hE3.trans hT3).trans hx4
    have hT4 : Blk w4 w3.heap.size #[.slice a2 r.counts.length c2, .int .i64 r.first, .int .i64 r.rounds, .bool r.equal] := (Blk.new w3 _ _).ext hx4
    have HT4 := Lib.hid hT4
    have HM4 := Lib.hid (HM3.out.ext (hT3.trans hx4))
    have HC4 := Lib.hid (HC3.out.ext (hT3.trans hx4))
    have HV4 := Lib.hid (HV3.out.ext (hT3.trans hx4))
    have t0 := hT4.cell 0 (v := .slice a2 r.counts.length c2) rfl
    have t1 := hT4.cell 1 (v := .int .i64 r.first) rfl
    have t2 := hT4.cell 2 (v := .int .i64 r.rounds) rfl
    have t3 := hT4.cell 3 (v := .bool r.equal) rfl
    have htl := hT4.lt
    clear hT4 hT3 hx4 HCk HM3 HC3 HV3 hE3
    generalize w3.heap.size = kt at *
    obtain ⟨S, hS⟩ : ∃ S, playS r l = S := ⟨_, rfl⟩
    have hsm : S.1.Small := by rw [← hS]; exact playS_small (by omega)
    have HS := Lib.hid hS
    have HSM := Lib.hid hsm
    have hPl := leg_Play r a2 c2 l va3 vc3 w4 HC4.out hl HV4.out HF.out hll _ hS
    have HPl := Lib.hid hPl
    clear hS hsm hPl
    go_wp2_with fail
    refine HPl.out.mono ?_
    rintro e w5 ⟨v5, rfl, hSt5, hx5⟩
    obtain ⟨pa0, pa1, pa2, pa3, pc0, pc1, pc2, pc3, hRd5⟩ := hSt5.reads
    obtain rfl := hRd5.shape
    have hX5 := (Ext.refl w5).alloc (.cells #[.slice pa0 S.1.left.length pc0, .slice pa1 S.1.darts.length pc1, .slice pa2 S.1.inn.length pc2, .int .i64 S.1.next, .int .i64 S.1.round, .bool S.1.over, .slice pa3 S.1.winners.length pc3] 51)
    have hR6 : RdSt (w5.alloc (.cells #[.slice pa0 S.1.left.length pc0, .slice pa1 S.1.darts.length pc1, .slice pa2 S.1.inn.length pc2, .int .i64 S.1.next, .int .i64 S.1.round, .bool S.1.over, .slice pa3 S.1.winners.length pc3] 51)) S.1 _ pa0 pa1 pa2 pa3 pc0 pc1 pc2 pc3 := ⟨rfl, hRd5.left.ext hX5, hRd5.darts.ext hX5, hRd5.inn.ext hX5, hRd5.winners.ext hX5⟩
    have hB6 : Blk (w5.alloc (.cells #[.slice pa0 S.1.left.length pc0, .slice pa1 S.1.darts.length pc1, .slice pa2 S.1.inn.length pc2, .int .i64 S.1.next, .int .i64 S.1.round, .bool S.1.over, .slice pa3 S.1.winners.length pc3] 51)) w5.heap.size #[.slice pa0 S.1.left.length pc0, .slice pa1 S.1.darts.length pc1, .slice pa2 S.1.inn.length pc2, .int .i64 S.1.next, .int .i64 S.1.round, .bool S.1.over, .slice pa3 S.1.winners.length pc3] := Blk.new _ _ _
    have hE6 := (hE4.trans hx5).trans hX5
    have HR6 := Lib.hid hR6
    have HB6 := Lib.hid hB6
    have HT6 := Lib.hid (HT4.out.ext (hx5.trans hX5))
    have HM6 := Lib.hid (HM4.out.ext (hx5.trans hX5))
    have HC6 := Lib.hid (HC4.out.ext (hx5.trans hX5))
    have HV6 := Lib.hid (HV4.out.ext (hx5.trans hX5))
    clear hSt5 hRd5 hR6 hB6 hX5 hx5 t0 t1 t2 t3 htl HPl HT4 HM4 HC4 HV4 hE4
    go_wp2
    generalize hW6 : World.alloc w5 _ = w6 at *
    generalize w5.heap.size = k8 at *
    clear hW6
    go_loopw [11] (fun i wr => ∃ n : Nat, n ≤ r.counts.length ∧ i = .int .i64 n ∧ Ext w6 wr) (fun i _ => r.counts.length - (intOf i).toNat)
    case atStart => exact ⟨0, Nat.zero_le _, rfl, Ext.refl w6⟩
    case round =>
      obtain ⟨n, hn, rfl, hx7⟩ := hrel
      have hE7 := hE6.trans hx7
      have HT7 := Lib.hid (HT6.out.ext hx7)
      have HM7 := Lib.hid (HM6.out.ext hx7)
      have t0 := HT7.out.cell 0 (v := .slice a2 r.counts.length c2) rfl
      have n0 := HM7.out.cell 0 (v := .slice ca r.counts.length cc) rfl
      have htl := HT7.out.lt
      have hml := HM7.out.lt
      by_cases hlt : n < r.counts.length
      · obtain ⟨b8, o8, rfl, x0, x1, x2⟩ := HC6.out n hlt
        obtain ⟨b9, o9, rfl, y0, y1, y2⟩ := HC.out n hlt
        replace x0 := hx7.cell x0
        replace x1 := hx7.cell x1
        replace x2 := hx7.cell x2
        replace y0 := hE7.cell y0
        replace y1 := hE7.cell y1
        replace y2 := hE7.cell y2
        have hxl := lt_of_cell x0
        have hyl := lt_of_cell y0
        simp only at hxl hyl
        generalize r.counts[n] = z at *
        obtain ⟨z0, z1, z2⟩ := z
        simp only at x0 x1 x2 y0 y1 y2
        go_wp2
        refine wp_region_later (by kernel_rfl) (by kernel_rfl) ?_
        repeat (go_big_quiet_step (fail))
        refine wpQuiet_nil ?_
        intro w8 hw8
        obtain ⟨⟨w8, hx8⟩, rfl⟩ := hw8
        go_wp2
        go_roundw
        case rel => exact ⟨n + 1, by omega, by go_num, hx7.trans hx8⟩
        case measure => simp [intOf]; omega
      · have hUn := law_unchanged l va3 la vc3 lc wr (HV6.out.ext hx7) (HV.out.vis.ext hE7) hll (fun v hv => (HF.out v hv).2.2)
        have HUn := Lib.hid hUn
        clear hUn HT6 HM6 hE6
        go_wp2_with fail
        refine HUn.out.mono ?_
        rintro e w8 ⟨rfl, hx8⟩
        have hE8 := hE7.trans hx8
        have hx68 := hx7.trans hx8
        have HM8 := Lib.hid (HM7.out.ext hx8)
        have m0 := HM8.out.cell 0 (v := .slice ca r.counts.length cc) rfl
        have m1 := HM8.out.cell 1 (v := .int .i64 r.first) rfl
        have m2 := HM8.out.cell 2 (v := .int .i64 r.rounds) rfl
        have m3 := HM8.out.cell 3 (v := .bool r.equal) rfl
        have hRl := ref_Rules r ca cc w8 (HC.out.ext hE8) hl
        have HRl := Lib.hid hRl
        clear hRl hx8 hx7 hE7 HUn HM7 HT7 n0 t0 htl hml
        have herr : (r.err == 0) = r.ok := by cases h : r.ok <;> simp [Rul.err, h]
        have HERR := Lib.hid herr
        clear herr
        go_wp2_with fail
        refine HRl.out.mono ?_
        rintro e w9 ⟨rfl, hx9⟩
        have hE9 := hE8.trans hx9
        have hx69 := hx68.trans hx9
        have HM9 := Lib.hid (HM8.out.ext hx9)
        clear m0 m1 m2 m3 HRl hx9 hE8 hx68 HM8
        have m0 := HM9.out.cell 0 (v := .slice ca r.counts.length cc) rfl
        have m1 := HM9.out.cell 1 (v := .int .i64 r.first) rfl
        have m2 := HM9.out.cell 2 (v := .int .i64 r.rounds) rfl
        have m3 := HM9.out.cell 3 (v := .bool r.equal) rfl
        have hPl := ref_Play r ca cc l la lc w9 (HC.out.ext hE9) hl (HV.out.vis.ext hE9) HF.out hll _ HS.out
        have HPl := Lib.hid hPl
        have HR9 := Lib.hid (show RdSt w9 S.1 _ pa0 pa1 pa2 pa3 pc0 pc1 pc2 pc3 from ⟨rfl, HR6.out.left.ext hx69, HR6.out.darts.ext hx69, HR6.out.inn.ext hx69, HR6.out.winners.ext hx69⟩)
        have HB9 := Lib.hid (HB6.out.ext hx69)
        clear hPl hx69 HR6 HB6
        cases hok : r.ok
        all_goals
          have he := r.err_eq
          rw [hok] at he
          simp at he
          rw [he]
          clear he
          go_wp2_with fail
          refine HPl.out.mono ?_
          rintro e wa ⟨va, rfl, ⟨qa0, qa1, qa2, qa3, qc0, qc1, qc2, qc3, hRda⟩, hxa⟩
          obtain rfl := hRda.shape
          have hXa := (Ext.refl wa).alloc (.cells #[.slice qa0 S.1.left.length qc0, .slice qa1 S.1.darts.length qc1, .slice qa2 S.1.inn.length qc2, .int .i64 S.1.next, .int .i64 S.1.round, .bool S.1.over, .slice qa3 S.1.winners.length qc3] 51)
          have hBa : Blk (wa.alloc (.cells #[.slice qa0 S.1.left.length qc0, .slice qa1 S.1.darts.length qc1, .slice qa2 S.1.inn.length qc2, .int .i64 S.1.next, .int .i64 S.1.round, .bool S.1.over, .slice qa3 S.1.winners.length qc3] 51)) wa.heap.size #[.slice qa0 S.1.left.length qc0, .slice qa1 S.1.darts.length qc1, .slice qa2 S.1.inn.length qc2, .int .i64 S.1.next, .int .i64 S.1.round, .bool S.1.over, .slice qa3 S.1.winners.length qc3] := Blk.new _ _ _
          have hEa := (hE9.trans hxa).trans hXa
          have hBp := HB9.out.ext (hxa.trans hXa)
          have hSa := ref_Same S.1 _ _ _ ((show Reads3 w9 S.1 _ from ⟨_, _, _, _, _, _, _, _, HR9.out⟩).ext (hxa.trans hXa)) (Reads3.ext ⟨_, _, _, _, _, _, _, _, hRda⟩ hXa) HSM.out
          have HSa := Lib.hid hSa
          obtain ⟨⟨s0, s1, s2, s3, s4, s5, s6⟩, ss, -⟩ := hBp.seven
          obtain ⟨⟨r0, r1, r2, r3, r4, r5, r6⟩, rs, -⟩ := hBa.seven
          clear hRda hBa hBp hSa hXa hxa HPl HR9 HB9 hE9 m0 m1 m2 m3
          generalize wa.heap.size = ka at *
          go_wp2_with fail
          refine HSa.out.mono ?_
          rintro e wb ⟨rfl, hxb⟩
          have hEb := hEa.trans hxb
          clear HSa hxb hEa s0 s1 s2 s3 s4 s5 s6 ss r0 r1 r2 r3 r4 r5 r6 rs
          go_wp2_with fail
          refine (law_known _).mono ?_
          rintro e wd ⟨rfl, hxd⟩
          go_wp2
          go_ret
          exact ⟨rfl, hEb.trans hxd⟩
  · go_enter Try.func4, Try.ntmps4
    go_wp2_with fail
    refine (HL.out _ (by exact (Ext.refl w).alloc _)).mono ?_
    rintro e w1 ⟨rfl, hx1⟩
    rw [hlo]
    have hE1 := Ext.trans ((Ext.refl w).alloc _) hx1
    go_wp2_with fail
    refine (law_known _).mono ?_
    rintro e w2 ⟨rfl, hx2⟩
    go_wp2
    go_ret
    exact ⟨rfl, hE1.trans hx2⟩
end Go.Proofs.Ytocnglplhnhllaa
