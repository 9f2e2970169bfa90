/-
  The statement LegJudges: walked.
-/
import Derived.Test.YtocnglplhnhllaaVit
import Derived.Test.YtocnglplhnhllaaUnc
import Derived.Test.YtocnglplhnhllaaRfj
import Derived.Test.YtocnglplhnhllaaSml
import Derived.Test.YtocnglplhnhllaaKno
namespace Go.Proofs.Ytocnglplhnhllaa
open Go.RowKit Go.BigFrame
attribute [local go_sem] Later.cell Later.frozen Lat.cell Lat.frozen
set_option maxRecDepth 100000 in
set_option maxHeartbeats 16000000 in
theorem law_LegJudges (r : Rul) (ca : Option Addr) (cc : Nat) (l : List LV) (la : Option Addr) (lc : Nat) (w : World) (hC : CntsAt w ca r.counts) (hn : ca = none → r.counts.length = 0 ∧ cc = 0) (hl : r.counts.length ≤ 9223372036854775807)
    (hV : VisIn w la l) (hf : ∀ v ∈ l, v.fits) (hll : l.length ≤ 9223372036854775807) :
    Calls Try.prog 5 #[.agg #[.slice ca r.counts.length cc, .int .i64 r.first, .int .i64 r.rounds, .bool r.equal], .slice la l.length lc] w fun e w' => e = .returned (.bool true) ∧ Ext w w' := by
  have HC := Lib.hid hC
  have HN := Lib.hid hn
  have HV := Lib.hid hV
  have HF := Lib.hid hf
  have HL := Lib.hid (fun W hW => law_long r ca cc l la lc W hl (hV.vis.ext hW) (fun v hv => (hf v hv).2.2) hll)
  clear hC hn hV hf
  cases hlo : longS r.counts.length l
  · have hb := longS_false hlo
    have hb1 := hb.2.1
    have hb2 := hb.2.2.2
    have HB := Lib.hid hb.1
    clear hb
    have hRu := fun W (hW : Ext w W) => law_rules r ca cc W (HC.out.ext hW) (by omega) HN.out
    have HRu := Lib.hid hRu
    have hVi := fun W (hW : Ext w W) => law_visits l la lc W (HV.out.ext hW) (by omega) (fun v hv => by have := HB.out v hv; omega)
    have HVi := Lib.hid hVi
    clear hRu hVi
    go_enter Try.func5, Try.ntmps5
    go_wp2_with fail
    refine (HL.out _ (by exact (Ext.refl w).alloc _)).mono ?_
    rintro e w1 ⟨rfl, hx1⟩
    rw [hlo]
    have hE1 := Ext.trans ((Ext.refl w).alloc (.cells #[.slice ca r.counts.length cc, .int .i64 r.first, .int .i64 r.rounds, .bool r.equal] 42)) hx1
    have hM1 : Blk w1 w.heap.size #[.slice ca r.counts.length cc, .int .i64 r.first, .int .i64 r.rounds, .bool r.equal] := (Blk.new w _ _).ext hx1
    have HM1 := Lib.hid hM1
    have m0 := hM1.cell 0 (v := .slice ca r.counts.length cc) rfl
    have m1 := hM1.cell 1 (v := .int .i64 r.first) rfl
    have m2 := hM1.cell 2 (v := .int .i64 r.rounds) rfl
    have m3 := hM1.cell 3 (v := .bool r.equal) rfl
    clear hM1 hx1
    go_wp2_with fail
    refine (HRu.out _ hE1).mono ?_
    rintro e w2 ⟨a2, c2, rfl, hO2, hC2, hx2⟩
    have hE2 := hE1.trans hx2
    have HM2 := Lib.hid (HM1.out.ext hx2)
    have HC2 := Lib.hid hC2
    clear hO2 hC2 m0 m1 m2 m3 HM1 hE1 hx2
    go_wp2_with fail
    refine (HVi.out _ hE2).mono ?_
    rintro e w3 ⟨v3, us3, rfl, hO3, hx3⟩
    obtain ⟨va3, vc3, rfl, hv3⟩ := hO3.vis
    have hE3 := hE2.trans hx3
    have HM3 := Lib.hid (HM2.out.ext hx3)
    have HC3 := Lib.hid (HC2.out.ext hx3)
    have HV3 := Lib.hid hv3
    clear hO3 hv3 HM2 HC2 hE2 hx3
    obtain ⟨S, hS⟩ : ∃ S, judS r l = S := ⟨_, rfl⟩
    have hsm : S.1.Small := by rw [← hS]; exact judS_small (by omega)
    have hfl : S.2.1.length ≤ l.length := by rw [← hS]; exact judS_length r l
    have HS := Lib.hid hS
    have HSM := Lib.hid hsm
    have hPl := leg_Judge r a2 c2 l va3 vc3 w3 HC3.out hl HV3.out HF.out hll _ hS
    have HPl := Lib.hid hPl
    clear hS hsm hPl
    go_wp2_with fail
    refine HPl.out.mono ?_
    rintro e w5 ⟨v5, f5, rfl, hSt5, hF5, hx5⟩
    obtain ⟨pa0, pa1, pa2, pa3, pc0, pc1, pc2, pc3, hRd5⟩ := hSt5.reads
    obtain rfl := hRd5.shape
    obtain ⟨fa5, fc5, rfl, hfl5⟩ := hF5.flts
    have hX5 := (Ext.refl w5).alloc (.cells #[.slice pa0 S.1.left.length pc0, .slice pa1 S.1.darts.length pc1, .slice pa2 S.1.inn.length pc2, .int .i64 S.1.next, .int .i64 S.1.round, .bool S.1.over, .slice pa3 S.1.winners.length pc3] 51)
    have hR6 : RdSt (w5.alloc (.cells #[.slice pa0 S.1.left.length pc0, .slice pa1 S.1.darts.length pc1, .slice pa2 S.1.inn.length pc2, .int .i64 S.1.next, .int .i64 S.1.round, .bool S.1.over, .slice pa3 S.1.winners.length pc3] 51)) S.1 _ pa0 pa1 pa2 pa3 pc0 pc1 pc2 pc3 := ⟨rfl, hRd5.left.ext hX5, hRd5.darts.ext hX5, hRd5.inn.ext hX5, hRd5.winners.ext hX5⟩
    have hB6 : Blk (w5.alloc (.cells #[.slice pa0 S.1.left.length pc0, .slice pa1 S.1.darts.length pc1, .slice pa2 S.1.inn.length pc2, .int .i64 S.1.next, .int .i64 S.1.round, .bool S.1.over, .slice pa3 S.1.winners.length pc3] 51)) w5.heap.size #[.slice pa0 S.1.left.length pc0, .slice pa1 S.1.darts.length pc1, .slice pa2 S.1.inn.length pc2, .int .i64 S.1.next, .int .i64 S.1.round, .bool S.1.over, .slice pa3 S.1.winners.length pc3] := Blk.new _ _ _
    have hE6 := (hE3.trans hx5).trans hX5
    have HR6 := Lib.hid hR6
    have HB6 := Lib.hid hB6
    have HF6 := Lib.hid (hfl5.ext hX5)
    have hM6 := HM3.out.ext (hx5.trans hX5)
    have m0 := hM6.cell 0 (v := .slice ca r.counts.length cc) rfl
    have m1 := hM6.cell 1 (v := .int .i64 r.first) rfl
    have m2 := hM6.cell 2 (v := .int .i64 r.rounds) rfl
    have m3 := hM6.cell 3 (v := .bool r.equal) rfl
    have hml := hM6.lt
    have hPl := ref_Judge r ca cc l la lc _ (HC.out.ext hE6) hl (HV.out.vis.ext hE6) HF.out hll _ HS.out
    have HPl := Lib.hid hPl
    clear hSt5 hRd5 hR6 hB6 hX5 hx5 hPl hfl5 hF5 HM3 HC3 HV3 hE3 hM6
    go_wp2_with fail
    refine HPl.out.mono ?_
    rintro e wa ⟨va, fv, rfl, ⟨qa0, qa1, qa2, qa3, qc0, qc1, qc2, qc3, hRda⟩, hFa, hxa⟩
    obtain rfl := hRda.shape
    obtain ⟨ga, gc, rfl, hfla⟩ := hFa.flts
    have hXa := (Ext.refl wa).alloc (.cells #[.slice qa0 S.1.left.length qc0, .slice qa1 S.1.darts.length qc1, .slice qa2 S.1.inn.length qc2, .int .i64 S.1.next, .int .i64 S.1.round, .bool S.1.over, .slice qa3 S.1.winners.length qc3] 51)
    have hBa : Blk (wa.alloc (.cells #[.slice qa0 S.1.left.length qc0, .slice qa1 S.1.darts.length qc1, .slice qa2 S.1.inn.length qc2, .int .i64 S.1.next, .int .i64 S.1.round, .bool S.1.over, .slice qa3 S.1.winners.length qc3] 51)) wa.heap.size #[.slice qa0 S.1.left.length qc0, .slice qa1 S.1.darts.length qc1, .slice qa2 S.1.inn.length qc2, .int .i64 S.1.next, .int .i64 S.1.round, .bool S.1.over, .slice qa3 S.1.winners.length qc3] := Blk.new _ _ _
    have hEa := (hE6.trans hxa).trans hXa
    have hBp := HB6.out.ext (hxa.trans hXa)
    have hR9 := HR6.out
    have hSa := ref_Same S.1 _ _ _ (Reads3.ext ⟨_, _, _, _, _, _, _, _, hR9⟩ (hxa.trans hXa)) (Reads3.ext ⟨_, _, _, _, _, _, _, _, hRda⟩ hXa) HSM.out
    have HSa := Lib.hid hSa
    have HF7 := Lib.hid (HF6.out.ext (hxa.trans hXa))
    have HFa := Lib.hid (hfla.ext hXa)
    obtain ⟨⟨s0, s1, s2, s3, s4, s5, s6⟩, ss, -⟩ := hBp.seven
    obtain ⟨⟨r0, r1, r2, r3, r4, r5, r6⟩, rs, -⟩ := hBa.seven
    clear hRda hBa hBp hSa hXa hxa HPl HR6 HB6 HF6 hR9 hE6 m0 m1 m2 m3 hml hfla hFa
    go_upto_region 5 with fail
    generalize hWa : World.alloc wa _ = Wa at *
    generalize wa.heap.size = ka at *
    clear hWa
    go_wp2_with fail
    refine HSa.out.mono ?_
    rintro e wb ⟨rfl, hxb⟩
    have hEb := hEa.trans hxb
    have HF8 := Lib.hid (HF7.out.ext hxb)
    have HFb := Lib.hid (HFa.out.ext hxb)
    clear HSa hxb hEa s0 s1 s2 s3 s4 s5 s6 ss r0 r1 r2 r3 r4 r5 r6 rs HF7 HFa
    go_wp2
    go_loopw [11] (fun i wr => ∃ n : Nat, n ≤ S.2.1.length ∧ i = .int .i64 n ∧ Ext wb wr) (fun i _ => S.2.1.length - (intOf i).toNat)
    case atStart => exact ⟨0, Nat.zero_le _, rfl, Ext.refl wb⟩
    case round =>
      obtain ⟨n, hn, rfl, hx7⟩ := hrel
      by_cases hlt : n < S.2.1.length
      · obtain ⟨b8, o8, rfl, x0, x1, x2⟩ := HF8.out n hlt
        obtain ⟨b9, o9, rfl, y0, y1, y2⟩ := HFb.out n hlt
        replace x0 := hx7.cell x0
        replace x1 := hx7.cell x1
        replace x2 := hx7.cell x2
        replace y0 := hx7.cell y0
        replace y1 := hx7.cell y1
        replace y2 := hx7.cell y2
        have hxl := lt_of_cell x0
        have hyl := lt_of_cell y0
        simp only at hxl hyl
        generalize S.2.1[n] = z at *
        obtain ⟨z0, z1, z2⟩ := z
        simp only at x0 x1 x2 y0 y1 y2
        go_wp2
        refine wp_region_later (by kernel_rfl) (by kernel_rfl) ?_
        repeat (go_big_quiet_step (fail))
        refine wpQuiet_nil ?_
        intro w8 hw8
        obtain ⟨⟨w8, hx8⟩, rfl⟩ := hw8
        go_wp2
        go_roundw
        case rel => exact ⟨n + 1, by omega, by go_num, hx7.trans hx8⟩
        case measure => simp [intOf]; omega
      · go_wp2_with fail
        refine (law_known _).mono ?_
        rintro e wd ⟨rfl, hxd⟩
        go_wp2
        go_ret
        exact ⟨rfl, (hEb.trans hx7).trans hxd⟩
  · go_enter Try.func5, Try.ntmps5
    go_wp2_with fail
    refine (HL.out _ (by exact (Ext.refl w).alloc _)).mono ?_
    rintro e w1 ⟨rfl, hx1⟩
    rw [hlo]
    have hE1 := Ext.trans ((Ext.refl w).alloc _) hx1
    go_wp2_with fail
    refine (law_known _).mono ?_
    rintro e w2 ⟨rfl, hx2⟩
    go_wp2
    go_ret
    exact ⟨rfl, hE1.trans hx2⟩
end Go.Proofs.Ytocnglplhnhllaa
