/-
  The statement LegKept: walked.
-/
import Derived.Test.YtocnglplhnhllaaVit
import Derived.Test.YtocnglplhnhllaaKep
import Derived.Deep.DeepCutAuto
namespace Go.Proofs.Ytocnglplhnhllaa
open Go.RowKit Go.BigFrame
attribute [local go_sem] Later.cell Later.frozen Lat.cell Lat.frozen
theorem new_two (w : World) (a b : Value) (t : TypeId) : ∀ ad, some (⟨w.heap.size, 0, none⟩ : Addr) = some ad → ∀ j u, [a, b][j]? = some u → (w.alloc (.cells #[a, b] t)).cell? (ad.add j) = some u := by
  intro ad h j u hj
  cases h
  match j, hj with
  | 0, hj => simp at hj; subst hj; simp [addr_add, go_sem]
  | 1, hj => simp at hj; subst hj; simp [addr_add, go_sem]
set_option maxRecDepth 100000 in
set_option maxHeartbeats 4000000 in
theorem law_LegKept (r : Rul) (ca : Option Addr) (cc : Nat) (l : List LV) (la : Option Addr) (lc : Nat) (w : World) (hC : CntsAt w ca r.counts) (hn : ca = none → r.counts.length = 0 ∧ cc = 0) (hl : r.counts.length ≤ 9223372036854775807)
    (hV : VisIn w la l) (hf : ∀ v ∈ l, v.fits) (hll : l.length ≤ 9223372036854775807) :
    Calls Try.prog 10 #[.agg #[.slice ca r.counts.length cc, .int .i64 r.first, .int .i64 r.rounds, .bool r.equal], .slice la l.length lc] w fun e w' => e = .returned (.bool true) ∧ Ext w w' := by
  have HC := Lib.hid hC
  have HN := Lib.hid hn
  have HV := Lib.hid hV
  have HF := Lib.hid hf
  have HL := Lib.hid (fun W hW => law_long r ca cc l la lc W hl (hV.vis.ext hW) (fun v hv => (hf v hv).2.2) hll)
  clear hC hn hV hf
  cases hlo : longS r.counts.length l
  · have hb := longS_false hlo
    have hb1 := hb.2.1
    have hb2 := hb.2.2.2
    have HB := Lib.hid hb.1
    clear hb
    by_cases h2 : 200 < l.length
    · go_enter Try.func10, Try.ntmps10
      go_wp2_with fail
      refine (HL.out _ (by exact (Ext.refl w).alloc _)).mono ?_
      rintro e w1 ⟨rfl, hx1⟩
      rw [hlo]
      have hE1 := Ext.trans ((Ext.refl w).alloc _) hx1
      go_wp2_with fail
      refine (law_known _).mono ?_
      rintro e w2 ⟨rfl, hx2⟩
      go_wp2
      go_ret
      exact ⟨rfl, hE1.trans hx2⟩
    · have hRu := fun W (hW : Ext w W) => law_rules r ca cc W (HC.out.ext hW) (by omega) HN.out
      have HRu := Lib.hid hRu
      have hVi := fun W (hW : Ext w W) => law_visits l la lc W (HV.out.ext hW) (by omega) (fun v hv => by have := HB.out v hv; omega)
      have HVi := Lib.hid hVi
      clear hRu hVi
      go_enter Try.func10, Try.ntmps10
      go_wp2_with fail
      refine (HL.out _ (by exact (Ext.refl w).alloc _)).mono ?_
      rintro e w1 ⟨rfl, hx1⟩
      rw [hlo]
      have hE1 := Ext.trans ((Ext.refl w).alloc (.cells #[.slice ca r.counts.length cc, .int .i64 r.first, .int .i64 r.rounds, .bool r.equal] 42)) hx1
      have hM1 : Blk w1 w.heap.size #[.slice ca r.counts.length cc, .int .i64 r.first, .int .i64 r.rounds, .bool r.equal] := (Blk.new w _ _).ext hx1
      have HM1 := Lib.hid hM1
      have m0 := hM1.cell 0 (v := .slice ca r.counts.length cc) rfl
      have m1 := hM1.cell 1 (v := .int .i64 r.first) rfl
      have m2 := hM1.cell 2 (v := .int .i64 r.rounds) rfl
      have m3 := hM1.cell 3 (v := .bool r.equal) rfl
      clear hM1 hx1
      go_wp2_with fail
      refine (HRu.out _ hE1).mono ?_
      rintro e w2 ⟨a2, c2, rfl, hO2, hC2, hx2⟩
      have hE2 := hE1.trans hx2
      have HM2 := Lib.hid (HM1.out.ext hx2)
      clear hO2 m0 m1 m2 m3 HM1 hE1 hx2
      have hCk := leg_Check r a2 c2 w2 hC2 hl
      have HCk := Lib.hid hCk
      clear hCk hC2
      go_wp2_with fail
      refine HCk.out.mono ?_
      rintro e w3 ⟨rfl, hx3⟩
      have hE3 := hE2.trans hx3
      have HM3 := Lib.hid (HM2.out.ext hx3)
      clear HCk HM2 hE2 hx3
      cases hok : r.ok
      · rw [show r.err = 2 by simp [Rul.err, hok]]
        go_wp2_with fail
        refine (law_known _).mono ?_
        rintro e w4 ⟨rfl, hx4⟩
        go_wp2
        go_ret
        exact ⟨rfl, hE3.trans hx4⟩
      · rw [show r.err = 0 by simp [Rul.err, hok]]
        have hne : newE r l.length = 0 := newE_ok hok (by omega)
        have HNE := Lib.hid hne
        have HOK := Lib.hid hok
        have m0 := HM3.out.cell 0 (v := .slice ca r.counts.length cc) rfl
        have m1 := HM3.out.cell 1 (v := .int .i64 r.first) rfl
        have m2 := HM3.out.cell 2 (v := .int .i64 r.rounds) rfl
        have m3 := HM3.out.cell 3 (v := .bool r.equal) rfl
        clear hne hok
        go_wp2_with fail
        refine (HRu.out _ hE3).mono ?_
        rintro e w4 ⟨a4, c4, rfl, hO4, hC4, hx4⟩
        have hE4 := hE3.trans hx4
        have HM4 := Lib.hid (HM3.out.ext hx4)
        have HC4 := Lib.hid hC4
        clear hO4 hC4 m0 m1 m2 m3 HM3 hE3 hx4
        go_wp2_with fail
        refine (HVi.out _ hE4).mono ?_
        rintro e w5 ⟨v5, us5, rfl, hO5, hx5⟩
        obtain ⟨va5, vc5, rfl, hv5⟩ := hO5.vis
        have hE5 := hE4.trans hx5
        have HM5 := Lib.hid (HM4.out.ext hx5)
        have hJu := leg_Judge r a4 c4 l va5 vc5 w5 (HC4.out.ext hx5) hl hv5 HF.out hll _ (judS_ok HNE.out)
        have HJu := Lib.hid hJu
        clear hJu hO5 hv5 HM4 HC4 hE4 hx5
        obtain ⟨S, hS⟩ : ∃ S, lasL r (.begin r) l = S := ⟨_, rfl⟩
        obtain ⟨fs, hfs⟩ : ∃ fs, fltL r (.begin r) 0 l = fs := ⟨_, rfl⟩
        have HS := Lib.hid hS
        have HFS := Lib.hid hfs
        rw [hS, hfs] at HJu
        clear hS hfs
        go_wp2_with fail
        refine HJu.out.mono ?_
        rintro e w6 ⟨v6, f6, rfl, hSt6, hFl6, hx6⟩
        obtain ⟨sa0, sa1, sa2, sa3, sc0, sc1, sc2, sc3, hRd6⟩ := hSt6.reads
        obtain ⟨fa, fc, rfl, hfa⟩ := hFl6.flts
        obtain rfl := hRd6.shape
        have HRd6 := Lib.hid hRd6
        have HFa6 := Lib.hid hfa
        have hE6 := hE5.trans hx6
        have HM6 := Lib.hid (HM5.out.ext hx6)
        have m0 := HM6.out.cell 0 (v := .slice ca r.counts.length cc) rfl
        have m1 := HM6.out.cell 1 (v := .int .i64 r.first) rfl
        have m2 := HM6.out.cell 2 (v := .int .i64 r.rounds) rfl
        have m3 := HM6.out.cell 3 (v := .bool r.equal) rfl
        have hml := HM6.out.lt
        clear hSt6 hFl6 hRd6 hfa HJu HM5 hE5 hx6
        go_wp2_with fail
        refine (HRu.out _ (by exact hE6.alloc _)).mono ?_
        rintro e w7 ⟨a7, c7, rfl, hO7, hC7, hx7⟩
        have hA6 := (Ext.refl w6).alloc (.cells #[.slice sa0 S.left.length sc0, .slice sa1 S.darts.length sc1, .slice sa2 S.inn.length sc2, .int .i64 S.next, .int .i64 S.round, .bool S.over, .slice sa3 S.winners.length sc3] 51)
        have hE7 := (hE6.trans hA6).trans hx7
        have hS7 : Blk w7 w6.heap.size #[.slice sa0 S.left.length sc0, .slice sa1 S.darts.length sc1, .slice sa2 S.inn.length sc2, .int .i64 S.next, .int .i64 S.round, .bool S.over, .slice sa3 S.winners.length sc3] := (Blk.new w6 _ _).ext hx7
        have HS7 := Lib.hid hS7
        have HRd7 := Lib.hid (HRd6.out.left.ext (hA6.trans hx7))
        have HFa7 := Lib.hid (HFa6.out.ext (hA6.trans hx7))
        have HM7 := Lib.hid (HM6.out.ext (hA6.trans hx7))
        have HC7 := Lib.hid hC7
        clear hO7 hC7 hx7 hA6 hE6 hS7 HM6 HRd6 HFa6 m0 m1 m2 m3 hml
        generalize hk5 : w6.heap.size = k5 at *
        clear hk5
        go_wp2_with fail
        refine (HVi.out _ hE7).mono ?_
        rintro e w8 ⟨v8, us8, rfl, hO8, hx8⟩
        obtain ⟨va8, vc8, rfl, hv8⟩ := hO8.vis
        have hE8 := hE7.trans hx8
        have HM8 := Lib.hid (HM7.out.ext hx8)
        have HS8 := Lib.hid (HS7.out.ext hx8)
        have HRd8 := Lib.hid (HRd7.out.ext hx8)
        have HFa8 := Lib.hid (HFa7.out.ext hx8)
        obtain ⟨pg, pat, pe, hpl, hp0, hp1⟩ := playS_flt HNE.out
        rw [HFS.out] at hp0 hp1
        have hPl := leg_Play r a7 c7 l va8 vc8 w8 (HC7.out.ext hx8) hl hv8 HF.out hll _ hpl
        have HPl := Lib.hid hPl
        have HP0 := Lib.hid hp0
        have HP1 := Lib.hid hp1
        clear hPl hp0 hp1 hpl hO8 hv8 HM7 HC7 hE7 hx8 HS7 HRd7 HFa7
        go_wp2_with fail
        refine HPl.out.mono ?_
        rintro e w9 ⟨v9, rfl, hSt9, hx9⟩
        obtain ⟨ta0, ta1, ta2, ta3, tc0, tc1, tc2, tc3, hRd9⟩ := hSt9.reads
        obtain rfl := hRd9.shape
        clear hRd9 hSt9 HPl
        have hA9 := (Ext.refl w9).alloc (.cells #[.slice ta0 pg.left.length tc0, .slice ta1 pg.darts.length tc1, .slice ta2 pg.inn.length tc2, .int .i64 pg.next, .int .i64 pg.round, .bool pg.over, .slice ta3 pg.winners.length tc3] 51)
        have hE9 := hE8.trans (hx9.trans hA9)
        have HM9 := Lib.hid (HM8.out.ext (hx9.trans hA9))
        have HS9 := Lib.hid (HS8.out.ext (hx9.trans hA9))
        have HRd9 := Lib.hid (HRd8.out.ext (hx9.trans hA9))
        have HFa9 := Lib.hid (HFa8.out.ext (hx9.trans hA9))
        have hEq : ∃ W, w9.alloc (.cells #[.slice ta0 pg.left.length tc0, .slice ta1 pg.darts.length tc1, .slice ta2 pg.inn.length tc2, .int .i64 pg.next, .int .i64 pg.round, .bool pg.over, .slice ta3 pg.winners.length tc3] 51) = W := ⟨_, rfl⟩
        obtain ⟨W9, hW9⟩ := hEq
        have HW9 := Lib.hid hW9
        rw [hW9] at hE9 HM9 HS9 HRd9 HFa9
        clear HM8 HS8 HRd8 HFa8 hE8 hx9 hA9 hW9
        go_upto_region 5 with fail
        rw [HW9.out]
        generalize hfn : fs.length = fn
        have HFN := Lib.hid hfn
        clear hfn
        go_cut [81] (fun b wx => b = .bool false ∧ wx = W9)
        case first =>
          cases fs with
          | nil =>
            obtain ⟨rfl, rfl⟩ := HP0.out rfl
            obtain rfl := HFN.out
            go_wp2
            go_meet
            exact ⟨rfl, rfl⟩
          | cons f fs =>
            obtain ⟨rfl, rfl, herr⟩ := HP1.out f fs rfl
            obtain ⟨b, o, rfl, q0, q1, q2⟩ := HFa9.out 0 (by simp)
            simp only [Nat.zero_mul, Nat.add_zero, List.getElem_cons_zero] at q0 q1 q2
            have herr' : (f.err == 0) = false := by simpa using herr
            have hlen : fn = fs.length + 1 := HFN.out.symm
            clear herr HFN
            obtain rfl := hlen
            go_wp2
            go_meet
            exact ⟨rfl, rfl⟩
        case rest =>
          obtain ⟨rfl, rfl⟩ := hcut
          have HKI := Lib.hid (KInv.start r l (.begin r))
          rw [HFS.out] at HKI
          obtain ⟨ks0, hks0⟩ : ∃ ks0, kepL r (.begin r) l = ks0 := ⟨_, rfl⟩
          rw [hks0] at HKI
          have HKS := Lib.hid hks0
          clear hks0 HP0 HP1 HFS
          go_wp2
          go_loopw [11, 12, 13] (fun kv kk i wr => ∃ (n k : Nat) (ks : List LV) (us : List Value), n ≤ l.length ∧ i = .int .i64 n ∧ kk = .int .i64 k ∧ KInv r l fs ks0 n k ks ∧ KepO w wr wc.heap.size kv ks us ∧ Ext wc wr) (fun _ _ i _ => l.length - (intOf i).toNat)
          case atStart => exact ⟨0, 0, [], [], Nat.zero_le _, rfl, rfl, HKI.out, KepO.nil (Nat.le_refl _), (Ext.refl wc).alloc _⟩
          case round =>
            obtain ⟨n, k, ks, us, hnl, rfl, rfl, hK, hO, hx⟩ := hrel
            have HK := Lib.hid hK
            have HO := Lib.hid hO
            obtain ⟨hk1, hk2, hk3⟩ := hK.bounds
            rw [HFN.out] at hk1
            obtain ⟨kva, kvc, rfl, -⟩ := hO.shape
            have HFa := Lib.hid (HFa9.out.ext hx)
            have hEr := hE9.trans hx
            clear hK hO HKI
            by_cases hlt : n < l.length
            · obtain ⟨lb, lo, ba, bc, rfl, p0, p1, hbe⟩ := HV.out n hlt
              replace p0 := hEr.cell p0
              replace p1 := hEr.cell p1
              have HBE := Lib.hid hbe
              have hlbl := lt_of_cell p0
              simp only at hlbl
              have hmiss := HK.out.miss hlt
              have HMiss := Lib.hid hmiss
              clear hbe hmiss
              have hbd : l[n].beds.length ≤ 6 := HB.out _ (List.getElem_mem hlt)
              by_cases hkf : k < fn
              · have hkl : k < fs.length := by rw [HFN.out]; exact hkf
                obtain ⟨fb, fo, rfl, q0, q1, q2⟩ := HFa.out k hkl
                have hfbl := lt_of_cell q0
                simp only at hfbl
                cases hv : fs[k].visit == (n : Int)
                · have hne : fs[k].visit ≠ (n : Int) := by simpa using hv
                  have HM := Lib.hid (HMiss.out (fun _ => hne))
                  clear hne HMiss q1 q2
                  generalize fs[k].visit = fv at *
                  generalize l[n] = x at *
                  obtain ⟨pl, beds⟩ := x
                  simp only at *
                  have hxa := (Ext.refl wr).alloc (.cells #[.int .i64 pl, .slice ba beds.length bc] 84)
                  have hsz := hx.size
                  go_wp2_with (at_builtin; refine wp_append_vals rfl _ _ 43 84 _ 2 32 rfl info_vis (by kernel_rfl) rfl (by decide) wc.heap.size _ ks.length (lvC ks us) rfl (HO.out.ext hxa).outer (some ⟨wr.heap.size, 0, none⟩) 1 1 [.int .i64 pl, .slice ba beds.length bc] rfl (fun h => by cases h) rfl (new_two wr _ _ _) (fun u hu => by simp at hu; rcases hu with rfl | rfl <;> rfl) (by omega) (by omega) (by simp; omega) ?_)
                  intro v' w4 ho4 hg4
                  have hlt2 := own_lt HO.out.outer
                  have hx4 : Ext wc w4 := Chg.to_ext (hx.trans hxa) (grown_chg hg4) (fun i e => (hlt2 i e).1)
                  have hP := HO.out.push (x := ⟨pl, beds⟩) HBE.out ho4
                  obtain ⟨av, cv, rfl, -⟩ := hP.shape
                  have HP := Lib.hid hP
                  have HX4 := Lib.hid hx4
                  clear hP ho4 hg4 hlt2 hx4 hxa
                  go_wp2
                  go_roundw
                  case rel => exact ⟨n + 1, k, _, _, by omega, by go_num, rfl, HM.out, HP.out, HX4.out⟩
                  case measure => simp [intOf]; omega
                · have hev : fs[k].visit = (n : Int) := by simpa using hv
                  obtain ⟨h1, ⟨h2, h3⟩, h4⟩ := HK.out.hit hlt hkl hev
                  have HI := Lib.hid h4
                  have herr : (fs[k].err == 0) = false := by simpa using h1
                  clear h1 h4 hev HMiss HBE
                  generalize fs[k].visit = fv at *
                  generalize fs[k].err = fe at *
                  generalize fs[k].dart = fd at *
                  generalize l[n].player = pl at *
                  generalize l[n].beds.length = bl at *
                  have h2' : decide (fd < -1) = false := by simp; omega
                  have h3' : decide ((bl : Int) ≤ fd) = false := by simp; omega
                  go_wp2
                  go_quiet (fail)
                  go_wp2
                  go_roundw
                  case rel => exact ⟨n + 1, k + 1, ks, us, by omega, by go_num, by go_num, HI.out, HO.out.ext (by exact (Ext.refl _).drewN _), (by exact hx.drewN _)⟩
                  case measure => simp [intOf]; omega
              · have HM := Lib.hid (HMiss.out (fun h => absurd h (by rw [HFN.out]; exact hkf)))
                clear HMiss
                generalize l[n] = x at *
                obtain ⟨pl, beds⟩ := x
                simp only at *
                have hxa := (Ext.refl wr).alloc (.cells #[.int .i64 pl, .slice ba beds.length bc] 84)
                have hsz := hx.size
                go_wp2_with (at_builtin; refine wp_append_vals rfl _ _ 43 84 _ 2 32 rfl info_vis (by kernel_rfl) rfl (by decide) wc.heap.size _ ks.length (lvC ks us) rfl (HO.out.ext hxa).outer (some ⟨wr.heap.size, 0, none⟩) 1 1 [.int .i64 pl, .slice ba beds.length bc] rfl (fun h => by cases h) rfl (new_two wr _ _ _) (fun u hu => by simp at hu; rcases hu with rfl | rfl <;> rfl) (by omega) (by omega) (by simp; omega) ?_)
                intro v' w4 ho4 hg4
                have hlt2 := own_lt HO.out.outer
                have hx4 : Ext wc w4 := Chg.to_ext (hx.trans hxa) (grown_chg hg4) (fun i e => (hlt2 i e).1)
                have hP := HO.out.push (x := ⟨pl, beds⟩) HBE.out ho4
                obtain ⟨av, cv, rfl, -⟩ := hP.shape
                have HP := Lib.hid hP
                have HX4 := Lib.hid hx4
                clear hP ho4 hg4 hlt2 hx4 hxa
                go_wp2
                go_roundw
                case rel => exact ⟨n + 1, k, _, _, by omega, by go_num, rfl, HM.out, HP.out, HX4.out⟩
                case measure => simp [intOf]; omega
            · obtain rfl : n = l.length := by omega
              obtain ⟨e1, e2⟩ := HK.out.end
              rw [HFN.out] at e1
              subst e1
              subst e2
              have hkl : ks.length ≤ 200 := by omega
              have hfk : ∀ v ∈ ks, v.fits := fun v hv => HF.out v (kepL_mem r l (.begin r) v (by rw [HKS.out]; exact hv))
              have hbk : ∀ v ∈ ks, v.beds.length ≤ 1000000 := fun v hv => by have := HB.out v (kepL_mem r l (.begin r) v (by rw [HKS.out]; exact hv)); omega
              have hpl : playS r ks = (S, 0, 0) := by
                have := playS_kept HOK.out (l := l) (by omega)
                rw [HKS.out, HS.out] at this
                exact this
              have HFK := Lib.hid hfk
              have HBK := Lib.hid hbk
              have HPL := Lib.hid hpl
              have HMr := Lib.hid (HM9.out.ext hx)
              have m0 := HMr.out.cell 0 (v := .slice ca r.counts.length cc) rfl
              have m1 := HMr.out.cell 1 (v := .int .i64 r.first) rfl
              have m2 := HMr.out.cell 2 (v := .int .i64 r.rounds) rfl
              have m3 := HMr.out.cell 3 (v := .bool r.equal) rfl
              have HSr := Lib.hid (HS9.out.ext hx)
              have HRdr := Lib.hid (HRd9.out.ext hx)
              obtain ⟨kva', kvc', hsh, hkn⟩ := HO.out.shape
              obtain ⟨rfl, rfl⟩ : kva = kva' ∧ kvc = kvc' := by injection hsh with a1 _ a3; exact ⟨a1, a3⟩
              have hvk : VisIn wr kva ks := HO.out.visIn (by exact hEr)
              have HVK := Lib.hid hvk
              clear hfk hbk hpl hsh hkn hvk HFa HK HO HVi HKS
              go_wp2_with fail
              refine (HRu.out _ hEr).mono ?_
              rintro e w10 ⟨a10, c10, rfl, hO10, hC10, hx10⟩
              have hE10 := hEr.trans hx10
              have HC10 := Lib.hid hC10
              have HSs := Lib.hid (HSr.out.ext hx10)
              have HRds := Lib.hid (HRdr.out.ext hx10)
              have HVKs := Lib.hid (HVK.out.ext hx10)
              clear hO10 hC10 m0 m1 m2 m3 HMr HSr HRdr HVK hx10
              have hVis := law_visits ks kva kvc w10 HVKs.out (by omega) HBK.out
              have HVis := Lib.hid hVis
              clear hVis
              go_wp2_with fail
              refine HVis.out.mono ?_
              rintro e w11 ⟨v11, us11, rfl, hO11, hx11⟩
              obtain ⟨va11, vc11, rfl, hv11⟩ := hO11.vis
              have hE11 := hE10.trans hx11
              have hPl2 := leg_Play r a10 c10 ks va11 vc11 w11 (HC10.out.ext hx11) hl hv11 HFK.out (by omega) _ HPL.out
              have HPl2 := Lib.hid hPl2
              have HSt := Lib.hid (HSs.out.ext hx11)
              have HRdt := Lib.hid (HRds.out.ext hx11)
              clear hPl2 hO11 hv11 HVis HSs HRds HC10 hE10 hx11
              go_wp2_with fail
              refine HPl2.out.mono ?_
              rintro e w12 ⟨v12, rfl, hSt12, hx12⟩
              obtain ⟨ra0, ra1, ra2, ra3, rc0, rc1, rc2, rc3, hRd12⟩ := hSt12.reads
              obtain rfl := hRd12.shape
              simp only
              have HRl := Lib.hid hRd12.left
              clear hRd12 hSt12 HPl2
              have hE12 := hE11.trans hx12
              have HSu := Lib.hid (HSt.out.ext hx12)
              have HRdu := Lib.hid (HRdt.out.ext hx12)
              obtain ⟨⟨s0, s1, s2, s3, s4, s5, s6⟩, ss, -⟩ := HSu.out.seven
              clear hE11 hx12 HSt HRdt
              have hSl : S.left.length ≤ 10 := by
                rw [← HS.out, lasL_left]
                simp only [Gm.begin, List.length_map]
                exact hb1
              go_wp2
              have hA13 := (Ext.refl w12).alloc (.cells #[.slice ra0 S.left.length rc0, .slice ra1 S.darts.length rc1, .slice ra2 S.inn.length rc2, .int .i64 S.next, .int .i64 S.round, .bool S.over, .slice ra3 S.winners.length rc3] 51)
              have hB13 : Blk (w12.alloc (.cells #[.slice ra0 S.left.length rc0, .slice ra1 S.darts.length rc1, .slice ra2 S.inn.length rc2, .int .i64 S.next, .int .i64 S.round, .bool S.over, .slice ra3 S.winners.length rc3] 51)) w12.heap.size #[.slice ra0 S.left.length rc0, .slice ra1 S.darts.length rc1, .slice ra2 S.inn.length rc2, .int .i64 S.next, .int .i64 S.round, .bool S.over, .slice ra3 S.winners.length rc3] := Blk.new _ _ _
              have hE13 := hE12.trans hA13
              have HS13 := Lib.hid (HSu.out.ext hA13)
              have HR13 := Lib.hid (HRdu.out.ext hA13)
              have HRl13 := Lib.hid (HRl.out.ext hA13)
              have HB13 := Lib.hid hB13
              clear hB13 hA13 hE12 HSu HRdu HRl s0 s1 s2 s3 s4 s5 s6 ss
              generalize hW13 : World.alloc w12 _ = W13 at *
              clear hW13
              generalize w12.heap.size = k14 at *
              have c0 := HB13.out.cell 0 (v := .slice ra0 S.left.length rc0) rfl
              have d0 := HS13.out.cell 0 (v := .slice sa0 S.left.length sc0) rfl
              have hk14 := HB13.out.lt
              have hk5 := HS13.out.lt
              go_loopw [17] (fun i wr2 => ∃ n : Nat, n ≤ S.left.length ∧ i = .int .i64 n ∧ Ext W13 wr2) (fun i _ => S.left.length - (intOf i).toNat)
              case atStart => exact ⟨0, Nat.zero_le _, rfl, Ext.refl W13⟩
              case round =>
                obtain ⟨n2, hn2, rfl, hx13⟩ := hrel
                replace c0 := hx13.cell c0
                replace d0 := hx13.cell d0
                have hsz13 := hx13.size
                by_cases hlt2 : n2 < S.left.length
                · obtain ⟨xb, xo, rfl, x0⟩ := HR13.out n2 hlt2
                  obtain ⟨yb, yo, rfl, y0⟩ := HRl13.out n2 hlt2
                  replace x0 := hx13.cell x0
                  replace y0 := hx13.cell y0
                  have hxl := lt_of_cell x0
                  have hyl := lt_of_cell y0
                  simp only at hxl hyl
                  generalize S.left[n2] = z at *
                  go_wp2
                  go_quiet (fail)
                  go_wp2
                  go_roundw
                  case rel => exact ⟨n2 + 1, by omega, by go_num, (by exact hx13.drewN _)⟩
                  case measure => simp [intOf]; omega
                · go_wp2_with fail
                  refine (law_known _).mono ?_
                  rintro e w14 ⟨rfl, hx14⟩
                  go_wp2
                  go_ret
                  exact ⟨rfl, (hE13.trans hx13).trans hx14⟩
  · go_enter Try.func10, Try.ntmps10
    go_wp2_with fail
    refine (HL.out _ (by exact (Ext.refl w).alloc _)).mono ?_
    rintro e w1 ⟨rfl, hx1⟩
    rw [hlo]
    have hE1 := Ext.trans ((Ext.refl w).alloc _) hx1
    go_wp2_with fail
    refine (law_known _).mono ?_
    rintro e w2 ⟨rfl, hx2⟩
    go_wp2
    go_ret
    exact ⟨rfl, hE1.trans hx2⟩
end Go.Proofs.Ytocnglplhnhllaa
