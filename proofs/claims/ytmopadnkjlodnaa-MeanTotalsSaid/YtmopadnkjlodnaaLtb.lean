/-
  MeanTotals, walked.
-/
import Derived.Test.YtmopadnkjlodnaaLta
namespace Go.Proofs.Ytmopadnkjlodnaa
open Go.RowKit Go.BigFrame
attribute [local go_sem] Later.cell Later.frozen
theorem eqTo (T : Tot) (w : World) : (Op.equalIn 10000 55 (.agg T.cells) (.agg T.cells)).run Try.prog w = .ok true w := eqTot _ _ _ _ _ _ _ _ _ _ _ _ w
set_option maxRecDepth 100000 in
set_option maxHeartbeats 8000000 in
theorem law_totals (HK : Hid Knows) (ls : List Leg) (la : Option Addr) (lc : Nat) (w : World) (hA : LgsA w la ls) :
    Calls Try.prog 11 #[.slice la ls.length lc] w fun e w' => e = .returned (.bool true) ∧ Ext w w' := by
  have HA := Lib.hid hA
  clear hA
  obtain ⟨BG, hBG⟩ : ∃ b, decide ((6 < ls.length ∧ ls.length ≤ 200) ∨ 205 < ls.length) = b := ⟨_, rfl⟩
  have HBG := Lib.hid hBG
  clear hBG
  go_enter Try.func11, Try.ntmps11
  go_upto_region 1 with fail
  go_cut [28] (fun b wx => b = .bool BG ∧ wx = w)
  case first =>
    by_cases h1 : ls.length ≤ 6
    · obtain rfl : BG = false := by rw [← HBG.out]; exact decide_eq_false (by omega)
      have e1 : ¬ (6 : Int) < (ls.length : Int) := by omega
      have e2 : ¬ (205 : Int) < (ls.length : Int) := by omega
      go_wp2
      go_meet
      exact ⟨rfl, rfl⟩
    · have e1 : (6 : Int) < (ls.length : Int) := by omega
      by_cases h2 : ls.length ≤ 200
      · obtain rfl : BG = true := by rw [← HBG.out]; exact decide_eq_true (by omega)
        have e2 : (ls.length : Int) ≤ 200 := by omega
        go_wp2
        go_meet
        exact ⟨rfl, rfl⟩
      · have e2 : ¬ (ls.length : Int) ≤ 200 := by omega
        by_cases h3 : ls.length ≤ 205
        · obtain rfl : BG = false := by rw [← HBG.out]; exact decide_eq_false (by omega)
          have e3 : ¬ (205 : Int) < (ls.length : Int) := by omega
          go_wp2
          go_meet
          exact ⟨rfl, rfl⟩
        · obtain rfl : BG = true := by rw [← HBG.out]; exact decide_eq_true (by omega)
          have e3 : (205 : Int) < (ls.length : Int) := by omega
          go_wp2
          go_meet
          exact ⟨rfl, rfl⟩
  obtain ⟨hc1, hc2⟩ := hcut
  subst hc1
  subst hc2
  rename World => w
  cases BG
  case true =>
    go_wp2_with fail
    refine (HK.out _).mono ?_
    rintro e wz ⟨rfl, hxz⟩
    go_wp2
    go_ret
    exact ⟨rfl, (Ext.refl _).trans hxz⟩
  case false =>
  have hlen : ls.length ≤ 205 := by have h := of_decide_eq_false HBG.out; omega
  clear HBG
  go_wp2
  go_loopw [3] (fun i wr => ∃ k : Nat, k ≤ ls.length ∧ i = .int .i64 k ∧ Ext w wr ∧ ∀ j (h : j < ls.length), j < k → ¬ BigL ls[j].beds.length ls[j].scores.length) (fun i _ => ls.length - (intOf i).toNat)
  case atStart => exact ⟨0, Nat.zero_le _, rfl, Ext.refl _, fun j _ h => absurd h (by omega)⟩
  case round =>
    obtain ⟨k, hk, rfl, hx, hno⟩ := hrel
    obtain ⟨w0, rfl⟩ : ∃ x, x = wr := ⟨_, rfl⟩
    have HX := Lib.hid hx
    have HNO := Lib.hid hno
    clear hx hno
    by_cases hlt : k < ls.length
    case pos =>
      obtain ⟨bb, bo, lba, lsa, lbc, lsc, rfl, hcell, hb1, hb2, -⟩ := HA.out k hlt
      obtain ⟨⟨start, gin, gout, beds, scores, won⟩, hle⟩ : ∃ y, ls[k] = y := ⟨_, rfl⟩
      rw [hle] at hcell
      have HLK := Lib.hid hle
      have HCELL := Lib.hid hcell
      clear hle hcell hb1 hb2
      have c0 : w0.cell? ⟨bb, bo + k * 6, none⟩ = some (.int .i64 start) := HX.out.cell (HCELL.out 0 (.int .i64 start) rfl)
      have c1 : w0.cell? ⟨bb, bo + k * 6 + 1, none⟩ = some (.int .i64 gin) := HX.out.cell (HCELL.out 1 (.int .i64 gin) rfl)
      have c2 : w0.cell? ⟨bb, bo + k * 6 + 2, none⟩ = some (.int .i64 gout) := HX.out.cell (HCELL.out 2 (.int .i64 gout) rfl)
      have c3 : w0.cell? ⟨bb, bo + k * 6 + 3, none⟩ = some (.slice lba beds.length lbc) := HX.out.cell (HCELL.out 3 (.slice lba beds.length lbc) rfl)
      have c4 : w0.cell? ⟨bb, bo + k * 6 + 4, none⟩ = some (.slice lsa scores.length lsc) := HX.out.cell (HCELL.out 4 (.slice lsa scores.length lsc) rfl)
      have c5 : w0.cell? ⟨bb, bo + k * 6 + 5, none⟩ = some (.bool won) := HX.out.cell (HCELL.out 5 (.bool won) rfl)
      have cl := lt_of_cell c0
      simp only at cl
      have HLG := Lib.hid (fun W => law_large start gin gout beds.length scores.length lba lsa lbc lsc won W)
      by_cases hbg : BigL beds.length scores.length
      · rw [decide_eq_true hbg] at HLG
        go_wp2_with fail
        refine (HLG.out _).mono ?_
        rintro e w1 ⟨rfl, hx1⟩
        have HX1 := Lib.hid (HX.out.trans hx1)
        clear hx1 c0 c1 c2 c3 c4 c5 cl
        go_wp2_with fail
        refine (HK.out _).mono ?_
        rintro e wz ⟨rfl, hxz⟩
        go_wp2
        go_ret
        exact ⟨rfl, HX1.out.trans hxz⟩
      · rw [decide_eq_false hbg] at HLG
        go_wp2_with fail
        refine (HLG.out _).mono ?_
        rintro e w1 ⟨rfl, hx1⟩
        have HX1 := Lib.hid (HX.out.trans hx1)
        clear hx1 c0 c1 c2 c3 c4 c5 cl
        go_wp2
        go_roundw
        case rel =>
          refine ⟨k + 1, by omega, by go_num, HX1.out, fun j hj hjk => ?_⟩
          by_cases e : j = k
          · subst e; rw [HLK.out]; exact hbg
          · exact HNO.out j hj (by omega)
        case measure => simp [intOf]; omega
    case neg =>
    obtain rfl : k = ls.length := by omega
    have hnb : ∀ l ∈ ls, ¬ BigL l.beds.length l.scores.length := fun l hl => by
      obtain ⟨j, hj, rfl⟩ := List.getElem_of_mem hl
      exact HNO.out j hj hj
    have hsz : ∀ l ∈ ls, l.beds.length ≤ 1000 ∧ l.scores.length ≤ 1000 := fun l hl => by
      have h := hnb l hl
      unfold BigL at h
      omega
    have HI64 : Hid (∀ l ∈ ls, (∀ x ∈ l.beds, I64 x) ∧ (∀ x ∈ l.scores, I64 x) ∧ I64 l.start) := Lib.hid (fun l hl => by
      obtain ⟨j, hj, rfl⟩ := List.getElem_of_mem hl
      obtain ⟨_, _, _, _, _, _, -, -, k1, k2, k3⟩ := HA.out j hj
      exact ⟨k1.i64, k2.i64, k3⟩)
    have HLE := Lib.hid (fun W (hx : Ext w W) => law_legs ls la lc W (HA.out.ext hx) (by omega) hsz)
    have ht1 := fun a c W (h : LegsAt W a ls) => mean_Totals ls a c W h (by omega)
    have ht2 := fun a c W (h : LegsAt W a ls) => mean_First ls a c W h (by omega)
    have hr1 := fun W (hx : Ext w W) => ref_Totals ls la lc 100 W (HA.out.ext hx) hnb
    have hr2 := fun W (hx : Ext w W) => ref_Totals ls la lc 3 W (HA.out.ext hx) hnb
    obtain ⟨⟨T1, p1, r1⟩, h1⟩ : ∃ y, ofS 100 ls = y := ⟨_, rfl⟩
    obtain ⟨⟨T2, p2, r2⟩, h2⟩ : ∃ y, ofS 3 ls = y := ⟨_, rfl⟩
    rw [h1] at ht1 hr1
    rw [h2] at ht2 hr2
    unfold Tot.cells at ht1 hr1 ht2 hr2
    dsimp only at ht1 hr1 ht2 hr2
    have HT1 := Lib.hid ht1
    have HT2 := Lib.hid ht2
    have HR1 := Lib.hid hr1
    have HR2 := Lib.hid hr2
    clear ht1 ht2 hr1 hr2 h1 h2 hnb hsz HNO hlt hk
    go_wp2_with fail
    refine (HLE.out _ HX.out).mono ?_
    rintro e w1a ⟨v1, rfl, hO, hx1a⟩
    obtain ⟨a1, c1, rfl⟩ := hO.shape
    have HO := Lib.hid (hO.legs HI64.out)
    have Y1a := Lib.hid ((HX.out).trans hx1a)
    clear hO hx1a
    go_wp2_with fail
    refine (HT1.out _ _ _ HO.out).mono ?_
    rintro e w1b ⟨rfl, hx1b⟩
    have Y1b := Lib.hid (Y1a.out.trans hx1b)
    clear hx1b HO
    go_upto_region 9 with fail
    generalize hw2 : World.alloc w1b _ = w2
    obtain ⟨k4, hk4⟩ : ∃ y, y = w1b.heap.size := ⟨_, rfl⟩
    rw [← hk4]
    have Bk4 : Hid (Blk w2 k4 #[.int .i64 T1.legs, .int .i64 T1.won, .int .i64 T1.visits, .int .i64 T1.points, .int .i64 T1.darts.lo, .int .i64 T1.darts.hi, .int .i64 T1.tried.lo, .int .i64 T1.tried.hi, .int .i64 T1.tons, .int .i64 T1.highs, .int .i64 T1.tops, .int .i64 T1.best]) := Lib.hid (by rw [← hw2, hk4]; exact Blk.new _ _ _)
    have Xw2 : Hid (Ext w1b w2) := Lib.hid (by rw [← hw2]; exact (Ext.refl w1b).alloc _)
    have Yw2 : Hid (Ext w w2) := Lib.hid (Y1b.out.trans Xw2.out)
    clear hw2 hk4
    go_wp2_with fail
    refine (HLE.out _ Yw2.out).mono ?_
    rintro e w3a ⟨v3, rfl, hO, hx3a⟩
    obtain ⟨a3, c3, rfl⟩ := hO.shape
    have HO := Lib.hid (hO.legs HI64.out)
    have Y3a := Lib.hid ((Yw2.out).trans hx3a)
    have Bk4 := Lib.hid (Bk4.out.ext hx3a)
    clear hO hx3a
    go_wp2_with fail
    refine (HT2.out _ _ _ HO.out).mono ?_
    rintro e w3b ⟨rfl, hx3b⟩
    have Y3b := Lib.hid (Y3a.out.trans hx3b)
    have Bk4 := Lib.hid (Bk4.out.ext hx3b)
    clear hx3b HO
    go_upto_region 10 with fail
    generalize hw4 : World.alloc w3b _ = w4
    obtain ⟨k7, hk7⟩ : ∃ y, y = w3b.heap.size := ⟨_, rfl⟩
    rw [← hk7]
    have Bk7 : Hid (Blk w4 k7 #[.int .i64 T2.legs, .int .i64 T2.won, .int .i64 T2.visits, .int .i64 T2.points, .int .i64 T2.darts.lo, .int .i64 T2.darts.hi, .int .i64 T2.tried.lo, .int .i64 T2.tried.hi, .int .i64 T2.tons, .int .i64 T2.highs, .int .i64 T2.tops, .int .i64 T2.best]) := Lib.hid (by rw [← hw4, hk7]; exact Blk.new _ _ _)
    have Xw4 : Hid (Ext w3b w4) := Lib.hid (by rw [← hw4]; exact (Ext.refl w3b).alloc _)
    have Yw4 : Hid (Ext w w4) := Lib.hid (Y3b.out.trans Xw4.out)
    have Bk4 := Lib.hid (Bk4.out.ext Xw4.out)
    clear hw4 hk7
    go_wp2_with fail
    refine (HR1.out _ Yw4.out).mono ?_
    rintro e w5b ⟨rfl, hx5b⟩
    have Y5b := Lib.hid ((Yw4.out).trans hx5b)
    have Bk4 := Lib.hid (Bk4.out.ext hx5b)
    have Bk7 := Lib.hid (Bk7.out.ext hx5b)
    clear hx5b
    go_upto_region 11 with fail
    generalize hw6 : World.alloc w5b _ = w6
    obtain ⟨k10, hk10⟩ : ∃ y, y = w5b.heap.size := ⟨_, rfl⟩
    rw [← hk10]
    have Bk10 : Hid (Blk w6 k10 #[.int .i64 T1.legs, .int .i64 T1.won, .int .i64 T1.visits, .int .i64 T1.points, .int .i64 T1.darts.lo, .int .i64 T1.darts.hi, .int .i64 T1.tried.lo, .int .i64 T1.tried.hi, .int .i64 T1.tons, .int .i64 T1.highs, .int .i64 T1.tops, .int .i64 T1.best]) := Lib.hid (by rw [← hw6, hk10]; exact Blk.new _ _ _)
    have Xw6 : Hid (Ext w5b w6) := Lib.hid (by rw [← hw6]; exact (Ext.refl w5b).alloc _)
    have Yw6 : Hid (Ext w w6) := Lib.hid (Y5b.out.trans Xw6.out)
    have Bk4 := Lib.hid (Bk4.out.ext Xw6.out)
    have Bk7 := Lib.hid (Bk7.out.ext Xw6.out)
    clear hw6 hk10
    go_wp2_with fail
    refine (HR2.out _ Yw6.out).mono ?_
    rintro e w7b ⟨rfl, hx7b⟩
    have Y7b := Lib.hid ((Yw6.out).trans hx7b)
    have Bk4 := Lib.hid (Bk4.out.ext hx7b)
    have Bk7 := Lib.hid (Bk7.out.ext hx7b)
    have Bk10 := Lib.hid (Bk10.out.ext hx7b)
    clear hx7b
    go_upto_region 12 with fail
    generalize hw8 : World.alloc w7b _ = w8
    obtain ⟨k13, hk13⟩ : ∃ y, y = w7b.heap.size := ⟨_, rfl⟩
    rw [← hk13]
    have Bk13 : Hid (Blk w8 k13 #[.int .i64 T2.legs, .int .i64 T2.won, .int .i64 T2.visits, .int .i64 T2.points, .int .i64 T2.darts.lo, .int .i64 T2.darts.hi, .int .i64 T2.tried.lo, .int .i64 T2.tried.hi, .int .i64 T2.tons, .int .i64 T2.highs, .int .i64 T2.tops, .int .i64 T2.best]) := Lib.hid (by rw [← hw8, hk13]; exact Blk.new _ _ _)
    have Xw8 : Hid (Ext w7b w8) := Lib.hid (by rw [← hw8]; exact (Ext.refl w7b).alloc _)
    have Yw8 : Hid (Ext w w8) := Lib.hid (Y7b.out.trans Xw8.out)
    have Bk4 := Lib.hid (Bk4.out.ext Xw8.out)
    have Bk7 := Lib.hid (Bk7.out.ext Xw8.out)
    have Bk10 := Lib.hid (Bk10.out.ext Xw8.out)
    clear hw8 hk13
    clear HT1 HT2 HR1 HR2 HLE HI64
    have s0 := Bk4.out.cell 0 (v := .int .i64 T1.legs) rfl
    have s1 := Bk4.out.cell 1 (v := .int .i64 T1.won) rfl
    have s2 := Bk4.out.cell 2 (v := .int .i64 T1.visits) rfl
    have s3 := Bk4.out.cell 3 (v := .int .i64 T1.points) rfl
    have s4 := Bk4.out.cell 4 (v := .int .i64 T1.darts.lo) rfl
    have s5 := Bk4.out.cell 5 (v := .int .i64 T1.darts.hi) rfl
    have s6 := Bk4.out.cell 6 (v := .int .i64 T1.tried.lo) rfl
    have s7 := Bk4.out.cell 7 (v := .int .i64 T1.tried.hi) rfl
    have s8 := Bk4.out.cell 8 (v := .int .i64 T1.tons) rfl
    have s9 := Bk4.out.cell 9 (v := .int .i64 T1.highs) rfl
    have s10 := Bk4.out.cell 10 (v := .int .i64 T1.tops) rfl
    have s11 := Bk4.out.cell 11 (v := .int .i64 T1.best) rfl
    have sl := Bk4.out.lt
    have t0 := Bk7.out.cell 0 (v := .int .i64 T2.legs) rfl
    have t1 := Bk7.out.cell 1 (v := .int .i64 T2.won) rfl
    have t2 := Bk7.out.cell 2 (v := .int .i64 T2.visits) rfl
    have t3 := Bk7.out.cell 3 (v := .int .i64 T2.points) rfl
    have t4 := Bk7.out.cell 4 (v := .int .i64 T2.darts.lo) rfl
    have t5 := Bk7.out.cell 5 (v := .int .i64 T2.darts.hi) rfl
    have t6 := Bk7.out.cell 6 (v := .int .i64 T2.tried.lo) rfl
    have t7 := Bk7.out.cell 7 (v := .int .i64 T2.tried.hi) rfl
    have t8 := Bk7.out.cell 8 (v := .int .i64 T2.tons) rfl
    have t9 := Bk7.out.cell 9 (v := .int .i64 T2.highs) rfl
    have t10 := Bk7.out.cell 10 (v := .int .i64 T2.tops) rfl
    have t11 := Bk7.out.cell 11 (v := .int .i64 T2.best) rfl
    have tl := Bk7.out.lt
    have u0 := Bk10.out.cell 0 (v := .int .i64 T1.legs) rfl
    have u1 := Bk10.out.cell 1 (v := .int .i64 T1.won) rfl
    have u2 := Bk10.out.cell 2 (v := .int .i64 T1.visits) rfl
    have u3 := Bk10.out.cell 3 (v := .int .i64 T1.points) rfl
    have u4 := Bk10.out.cell 4 (v := .int .i64 T1.darts.lo) rfl
    have u5 := Bk10.out.cell 5 (v := .int .i64 T1.darts.hi) rfl
    have u6 := Bk10.out.cell 6 (v := .int .i64 T1.tried.lo) rfl
    have u7 := Bk10.out.cell 7 (v := .int .i64 T1.tried.hi) rfl
    have u8 := Bk10.out.cell 8 (v := .int .i64 T1.tons) rfl
    have u9 := Bk10.out.cell 9 (v := .int .i64 T1.highs) rfl
    have u10 := Bk10.out.cell 10 (v := .int .i64 T1.tops) rfl
    have u11 := Bk10.out.cell 11 (v := .int .i64 T1.best) rfl
    have ul := Bk10.out.lt
    have v0 := Bk13.out.cell 0 (v := .int .i64 T2.legs) rfl
    have v1 := Bk13.out.cell 1 (v := .int .i64 T2.won) rfl
    have v2 := Bk13.out.cell 2 (v := .int .i64 T2.visits) rfl
    have v3 := Bk13.out.cell 3 (v := .int .i64 T2.points) rfl
    have v4 := Bk13.out.cell 4 (v := .int .i64 T2.darts.lo) rfl
    have v5 := Bk13.out.cell 5 (v := .int .i64 T2.darts.hi) rfl
    have v6 := Bk13.out.cell 6 (v := .int .i64 T2.tried.lo) rfl
    have v7 := Bk13.out.cell 7 (v := .int .i64 T2.tried.hi) rfl
    have v8 := Bk13.out.cell 8 (v := .int .i64 T2.tons) rfl
    have v9 := Bk13.out.cell 9 (v := .int .i64 T2.highs) rfl
    have v10 := Bk13.out.cell 10 (v := .int .i64 T2.tops) rfl
    have v11 := Bk13.out.cell 11 (v := .int .i64 T2.best) rfl
    have vl := Bk13.out.lt
    have q1 := eqTo T1
    have q2 := eqTo T2
    unfold Tot.cells at q1 q2
    go_wp2_with fail
    refine (HK.out _).mono ?_
    rintro e wz ⟨rfl, hxz⟩
    go_wp2
    go_ret
    exact ⟨rfl, Yw8.out.trans hxz⟩
end Go.Proofs.Ytmopadnkjlodnaa
