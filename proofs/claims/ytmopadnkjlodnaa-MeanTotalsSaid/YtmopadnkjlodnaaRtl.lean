/-
  The reference of chapter 6: Totals.
-/
import Derived.Test.YtmopadnkjlodnaaLva
import Derived.Test.YtmopadnkjlodnaaRhe
import Derived.Test.YtmopadnkjlodnaaMog
namespace Go.Proofs.Ytmopadnkjlodnaa
open Go.RowKit Go.BigFrame
attribute [local go_sem] Oper.semAt_some Later.cell Later.frozen Lat.cell Lat.frozen NoX
/-- Legs that lie in a row, as any argument. -/
def LgsA (w : World) (la : Option Addr) (ls : List Leg) : Prop := ∀ i (h : i < ls.length), ∃ b o ba sa bc sc, la = some ⟨b, o, none⟩ ∧ (∀ j u, (ls[i].cells ba sa bc sc)[j]? = some u → w.cell? ⟨b, o + i * 6 + j, none⟩ = some u) ∧ BedA w ba bc ls[i].beds ∧ BedA w sa sc ls[i].scores ∧ I64 ls[i].start
theorem LgsA.ext {w w' : World} {la : Option Addr} {ls : List Leg} (h : LgsA w la ls) (hx : Ext w w') : LgsA w' la ls := fun i hi =>
  let ⟨b, o, ba, sa, bc, sc, e, h1, h2, h3, h4⟩ := h i hi; ⟨b, o, ba, sa, bc, sc, e, fun j u hu => hx.cell (h1 j u hu), h2.ext hx, h3.ext hx, h4⟩
theorem legT_stop {most : Int} {l : Leg} {xs : List Ex} {t : Tot} {j : Nat} (h : most ≤ (j : Int)) : ∀ n, j ≤ n → legT most l xs t n = legT most l xs t j
  | 0, hn => by rw [show j = 0 by omega]
  | n + 1, hn => by
    by_cases e : j = n + 1
    · rw [e]
    · rw [← legT_stop h n (by omega), legT, if_neg (by omega)]
/-- Between two legs. -/
structure TlI (most : Int) (ls : List Leg) (B k7 : Nat) (w1 : World) (k : Nat) (t : Tot) (W : World) : Prop where
  le : k ≤ ls.length
  res : ofG most ls 0 tot0 = ofG most (ls.drop k) k t
  tot : Blk W k7 t.cells
  chg : Chg (· = k7) w1 W
set_option maxRecDepth 100000 in
set_option maxHeartbeats 16000000 in
theorem ref_Totals (ls : List Leg) (la : Option Addr) (lc : Nat) (most : Int) (w : World) (hl : LgsA w la ls) (hb : ∀ l ∈ ls, ¬ BigL l.beds.length l.scores.length) :
    Calls Try.prog 43 #[.slice la ls.length lc, .int .i64 most] w fun e w' => e = .returned (.tuple #[.agg (ofS most ls).1.cells, .int .i64 (ofS most ls).2.1, .int .i64 (ofS most ls).2.2]) ∧ Ext w w' := by
  obtain ⟨RV, hRV⟩ : ∃ r, ofS most ls = r := ⟨_, rfl⟩
  rw [hRV]
  have HRV := Lib.hid hRV
  have HL := Lib.hid hl
  have HBG := Lib.hid hb
  clear hRV hl hb
  go_enter Try.func43, Try.ntmps43
  go_upto_region 1 with fail
  generalize hw0 : World.alloc w _ = w0
  obtain ⟨B, hBB⟩ : ∃ y, y = w.heap.size := ⟨_, rfl⟩
  rw [← hBB]
  have K0 : Hid (Blk w0 B #[.int .i64 0, .int .i64 0, .int .i64 0, .int .i64 0, .int .i64 0, .int .i64 0, .int .i64 0, .int .i64 0, .int .i64 0, .int .i64 0, .int .i64 0, .int .i64 0]) := Lib.hid (by rw [← hw0, hBB]; exact Blk.new _ _ _)
  have HX0 : Hid (Ext w w0) := Lib.hid (by rw [← hw0]; exact (Ext.refl w).alloc _)
  have HBB := Lib.hid hBB
  clear hw0 hBB
  go_upto_region 2 with fail
  generalize hwa : World.alloc w0 _ = w1
  obtain ⟨k7, hk7⟩ : ∃ y, y = w0.heap.size := ⟨_, rfl⟩
  rw [← hk7]
  have K1 : Hid (Blk w1 k7 tot0.cells) := Lib.hid (by rw [← hwa, hk7]; exact Blk.new _ _ _)
  have HXA : Hid (Ext w0 w1) := Lib.hid (by rw [← hwa]; exact (Ext.refl w0).alloc _)
  have HX1 : Hid (Ext w w1) := Lib.hid (HX0.out.trans HXA.out)
  have HBK : Hid (B < k7) := Lib.hid (by have h := K0.out.lt; omega)
  have K0 : Hid (Blk w1 B #[.int .i64 0, .int .i64 0, .int .i64 0, .int .i64 0, .int .i64 0, .int .i64 0, .int .i64 0, .int .i64 0, .int .i64 0, .int .i64 0, .int .i64 0, .int .i64 0]) := Lib.hid (K0.out.ext HXA.out)
  clear hwa hk7 HX0 HXA
  by_cases hbig : 200 < ls.length
  case pos =>
    have HRE : Hid (RV = (tot0, 0, 5)) := Lib.hid (by rw [← HRV.out]; exact if_pos hbig)
    have hb' : (200 : Int) < (ls.length : Int) := by omega
    have t0 := K1.out.cell 0 (v := .int .i64 0) rfl
    have tf0 := K1.out.frozen 0
    have t1 := K1.out.cell 1 (v := .int .i64 0) rfl
    have tf1 := K1.out.frozen 1
    have t2 := K1.out.cell 2 (v := .int .i64 0) rfl
    have tf2 := K1.out.frozen 2
    have t3 := K1.out.cell 3 (v := .int .i64 0) rfl
    have tf3 := K1.out.frozen 3
    have t4 := K1.out.cell 4 (v := .int .i64 0) rfl
    have tf4 := K1.out.frozen 4
    have t5 := K1.out.cell 5 (v := .int .i64 0) rfl
    have tf5 := K1.out.frozen 5
    have t6 := K1.out.cell 6 (v := .int .i64 0) rfl
    have tf6 := K1.out.frozen 6
    have t7 := K1.out.cell 7 (v := .int .i64 0) rfl
    have tf7 := K1.out.frozen 7
    have t8 := K1.out.cell 8 (v := .int .i64 0) rfl
    have tf8 := K1.out.frozen 8
    have t9 := K1.out.cell 9 (v := .int .i64 0) rfl
    have tf9 := K1.out.frozen 9
    have t10 := K1.out.cell 10 (v := .int .i64 0) rfl
    have tf10 := K1.out.frozen 10
    have t11 := K1.out.cell 11 (v := .int .i64 0) rfl
    have tf11 := K1.out.frozen 11
    have tl := K1.out.lt
    have z0 := K0.out.cell 0 (v := .int .i64 0) rfl
    have zf0 := K0.out.frozen 0
    have z1 := K0.out.cell 1 (v := .int .i64 0) rfl
    have zf1 := K0.out.frozen 1
    have z2 := K0.out.cell 2 (v := .int .i64 0) rfl
    have zf2 := K0.out.frozen 2
    have z3 := K0.out.cell 3 (v := .int .i64 0) rfl
    have zf3 := K0.out.frozen 3
    have z4 := K0.out.cell 4 (v := .int .i64 0) rfl
    have zf4 := K0.out.frozen 4
    have z5 := K0.out.cell 5 (v := .int .i64 0) rfl
    have zf5 := K0.out.frozen 5
    have z6 := K0.out.cell 6 (v := .int .i64 0) rfl
    have zf6 := K0.out.frozen 6
    have z7 := K0.out.cell 7 (v := .int .i64 0) rfl
    have zf7 := K0.out.frozen 7
    have z8 := K0.out.cell 8 (v := .int .i64 0) rfl
    have zf8 := K0.out.frozen 8
    have z9 := K0.out.cell 9 (v := .int .i64 0) rfl
    have zf9 := K0.out.frozen 9
    have z10 := K0.out.cell 10 (v := .int .i64 0) rfl
    have zf10 := K0.out.frozen 10
    have z11 := K0.out.cell 11 (v := .int .i64 0) rfl
    have zf11 := K0.out.frozen 11
    have zl := K0.out.lt
    go_wp2
    have hT := twl_set (b := B) K0.out (.int .i64 0) (.int .i64 0) (.int .i64 0) (.int .i64 0) (.int .i64 0) (.int .i64 0) (.int .i64 0) (.int .i64 0) (.int .i64 0) (.int .i64 0) (.int .i64 0) (.int .i64 0)
    have hC := twl_chg (· = B) w1 (b := B) rfl (.int .i64 0) (.int .i64 0) (.int .i64 0) (.int .i64 0) (.int .i64 0) (.int .i64 0) (.int .i64 0) (.int .i64 0) (.int .i64 0) (.int .i64 0) (.int .i64 0) (.int .i64 0)
    generalize World.setCell _ _ _ = W3 at hT hC ⊢
    have y0 := hT.cell 0 (v := .int .i64 0) rfl
    have y1 := hT.cell 1 (v := .int .i64 0) rfl
    have y2 := hT.cell 2 (v := .int .i64 0) rfl
    have y3 := hT.cell 3 (v := .int .i64 0) rfl
    have y4 := hT.cell 4 (v := .int .i64 0) rfl
    have y5 := hT.cell 5 (v := .int .i64 0) rfl
    have y6 := hT.cell 6 (v := .int .i64 0) rfl
    have y7 := hT.cell 7 (v := .int .i64 0) rfl
    have y8 := hT.cell 8 (v := .int .i64 0) rfl
    have y9 := hT.cell 9 (v := .int .i64 0) rfl
    have y10 := hT.cell 10 (v := .int .i64 0) rfl
    have y11 := hT.cell 11 (v := .int .i64 0) rfl
    refine bodyPost_ret (v := .tuple #[.agg #[.int .i64 0, .int .i64 0, .int .i64 0, .int .i64 0, .int .i64 0, .int .i64 0, .int .i64 0, .int .i64 0, .int .i64 0, .int .i64 0, .int .i64 0, .int .i64 0], .int .i64 0, .int .i64 5]) (by simp [results, Try.results43, go_sem, y0, y1, y2, y3, y4, y5, y6, y7, y8, y9, y10, y11]) rfl ⟨by rw [HRE.out]; rfl, Chg.to_ext HX1.out hC (by rintro i rfl; have h := HBB.out; omega)⟩
  case neg =>
  have HRE : Hid (RV = ofG most ls 0 tot0) := Lib.hid (by rw [← HRV.out]; exact if_neg hbig)
  have hlen : ls.length ≤ 200 := by omega
  have hb' : ¬ (200 : Int) < (ls.length : Int) := by omega
  go_wp2
  clear hb'
  go_loopw [8] (fun i wr => ∃ (k : Nat) (t : Tot), i = .int .i64 k ∧ TlI most ls B k7 w1 k t wr) (fun i _ => ls.length - (intOf i).toNat)
  case atStart => exact ⟨0, tot0, rfl, Nat.zero_le _, by rw [List.drop_zero], K1.out, Chg.refl _ _⟩
  case round =>
    obtain ⟨k, t, rfl, hI⟩ := hrel
    obtain ⟨w2, rfl⟩ : ∃ x, x = wr := ⟨_, rfl⟩
    have HI := Lib.hid hI
    have HW2 : Hid (Ext w w2) := Lib.hid (Chg.to_ext HX1.out hI.chg (by rintro i rfl; have h := HBK.out; have h1 := HBB.out; omega))
    have K02 : Hid (Blk w2 B #[.int .i64 0, .int .i64 0, .int .i64 0, .int .i64 0, .int .i64 0, .int .i64 0, .int .i64 0, .int .i64 0, .int .i64 0, .int .i64 0, .int .i64 0, .int .i64 0]) := Lib.hid (K0.out.chg hI.chg (by have h := HBK.out; omega))
    have hle := hI.le
    clear hI
    by_cases hlt : k < ls.length
    case neg =>
      obtain rfl : k = ls.length := by omega
      have HRE2 : Hid (RV = (t, 0, 0)) := Lib.hid (by rw [HRE.out, HI.out.res, List.drop_length]; rfl)
      have HT4 := Lib.hid HI.out.tot
      unfold Tot.cells at HT4
      have t0 := HT4.out.cell 0 (v := .int .i64 t.legs) rfl
      have tf0 := HT4.out.frozen 0
      have t1 := HT4.out.cell 1 (v := .int .i64 t.won) rfl
      have tf1 := HT4.out.frozen 1
      have t2 := HT4.out.cell 2 (v := .int .i64 t.visits) rfl
      have tf2 := HT4.out.frozen 2
      have t3 := HT4.out.cell 3 (v := .int .i64 t.points) rfl
      have tf3 := HT4.out.frozen 3
      have t4 := HT4.out.cell 4 (v := .int .i64 t.darts.lo) rfl
      have tf4 := HT4.out.frozen 4
      have t5 := HT4.out.cell 5 (v := .int .i64 t.darts.hi) rfl
      have tf5 := HT4.out.frozen 5
      have t6 := HT4.out.cell 6 (v := .int .i64 t.tried.lo) rfl
      have tf6 := HT4.out.frozen 6
      have t7 := HT4.out.cell 7 (v := .int .i64 t.tried.hi) rfl
      have tf7 := HT4.out.frozen 7
      have t8 := HT4.out.cell 8 (v := .int .i64 t.tons) rfl
      have tf8 := HT4.out.frozen 8
      have t9 := HT4.out.cell 9 (v := .int .i64 t.highs) rfl
      have tf9 := HT4.out.frozen 9
      have t10 := HT4.out.cell 10 (v := .int .i64 t.tops) rfl
      have tf10 := HT4.out.frozen 10
      have t11 := HT4.out.cell 11 (v := .int .i64 t.best) rfl
      have tf11 := HT4.out.frozen 11
      have tl := HT4.out.lt
      have z0 := K02.out.cell 0 (v := .int .i64 0) rfl
      have zf0 := K02.out.frozen 0
      have z1 := K02.out.cell 1 (v := .int .i64 0) rfl
      have zf1 := K02.out.frozen 1
      have z2 := K02.out.cell 2 (v := .int .i64 0) rfl
      have zf2 := K02.out.frozen 2
      have z3 := K02.out.cell 3 (v := .int .i64 0) rfl
      have zf3 := K02.out.frozen 3
      have z4 := K02.out.cell 4 (v := .int .i64 0) rfl
      have zf4 := K02.out.frozen 4
      have z5 := K02.out.cell 5 (v := .int .i64 0) rfl
      have zf5 := K02.out.frozen 5
      have z6 := K02.out.cell 6 (v := .int .i64 0) rfl
      have zf6 := K02.out.frozen 6
      have z7 := K02.out.cell 7 (v := .int .i64 0) rfl
      have zf7 := K02.out.frozen 7
      have z8 := K02.out.cell 8 (v := .int .i64 0) rfl
      have zf8 := K02.out.frozen 8
      have z9 := K02.out.cell 9 (v := .int .i64 0) rfl
      have zf9 := K02.out.frozen 9
      have z10 := K02.out.cell 10 (v := .int .i64 0) rfl
      have zf10 := K02.out.frozen 10
      have z11 := K02.out.cell 11 (v := .int .i64 0) rfl
      have zf11 := K02.out.frozen 11
      have zl := K02.out.lt
      go_wp2
      have hT := twl_set (b := B) K02.out (.int .i64 t.legs) (.int .i64 t.won) (.int .i64 t.visits) (.int .i64 t.points) (.int .i64 t.darts.lo) (.int .i64 t.darts.hi) (.int .i64 t.tried.lo) (.int .i64 t.tried.hi) (.int .i64 t.tons) (.int .i64 t.highs) (.int .i64 t.tops) (.int .i64 t.best)
      have hC := twl_chg (· = B) w2 (b := B) rfl (.int .i64 t.legs) (.int .i64 t.won) (.int .i64 t.visits) (.int .i64 t.points) (.int .i64 t.darts.lo) (.int .i64 t.darts.hi) (.int .i64 t.tried.lo) (.int .i64 t.tried.hi) (.int .i64 t.tons) (.int .i64 t.highs) (.int .i64 t.tops) (.int .i64 t.best)
      generalize World.setCell _ _ _ = W3 at hT hC ⊢
      have y0 := hT.cell 0 (v := .int .i64 t.legs) rfl
      have y1 := hT.cell 1 (v := .int .i64 t.won) rfl
      have y2 := hT.cell 2 (v := .int .i64 t.visits) rfl
      have y3 := hT.cell 3 (v := .int .i64 t.points) rfl
      have y4 := hT.cell 4 (v := .int .i64 t.darts.lo) rfl
      have y5 := hT.cell 5 (v := .int .i64 t.darts.hi) rfl
      have y6 := hT.cell 6 (v := .int .i64 t.tried.lo) rfl
      have y7 := hT.cell 7 (v := .int .i64 t.tried.hi) rfl
      have y8 := hT.cell 8 (v := .int .i64 t.tons) rfl
      have y9 := hT.cell 9 (v := .int .i64 t.highs) rfl
      have y10 := hT.cell 10 (v := .int .i64 t.tops) rfl
      have y11 := hT.cell 11 (v := .int .i64 t.best) rfl
      refine bodyPost_ret (v := .tuple #[.agg #[.int .i64 t.legs, .int .i64 t.won, .int .i64 t.visits, .int .i64 t.points, .int .i64 t.darts.lo, .int .i64 t.darts.hi, .int .i64 t.tried.lo, .int .i64 t.tried.hi, .int .i64 t.tons, .int .i64 t.highs, .int .i64 t.tops, .int .i64 t.best], .int .i64 0, .int .i64 0]) (by simp [results, Try.results43, go_sem, y0, y1, y2, y3, y4, y5, y6, y7, y8, y9, y10, y11]) rfl ⟨by rw [HRE2.out]; rfl, Chg.to_ext HW2.out hC (by rintro i rfl; have h := HBB.out; omega)⟩
    case pos =>
    obtain ⟨bb, bo, lba, lsa, lbc, lsc, rfl, hcell, hb1, hb2, hst⟩ := HL.out k hlt
    have hbg := HBG.out _ (List.getElem_mem hlt)
    obtain ⟨⟨start, gin, gout, beds, scores, won⟩, hle2⟩ : ∃ y, ls[k] = y := ⟨_, rfl⟩
    rw [hle2] at hcell hb1 hb2 hst hbg
    have HLE := Lib.hid hle2
    have HCELL := Lib.hid hcell
    have HB : Hid (BedA w lba lbc beds) := Lib.hid hb1
    have HS : Hid (BedA w lsa lsc scores) := Lib.hid hb2
    have hbg : ¬ BigL beds.length scores.length := hbg
    have hbl : beds.length ≤ 85 := by unfold BigL at hbg; omega
    have hsl : scores.length ≤ 105 := by unfold BigL at hbg; omega
    have HBGL := Lib.hid hbg
    clear hle2 hcell hb1 hb2 hst hbg
    have hrl := fun W (hx : Ext w W) => ref_Leg start gin gout beds lba lbc scores lsa lsc won W (HB.out.cells.ext hx) HB.out.i64 (by omega) (HS.out.cells.ext hx) (by omega)
    cases hok : Leg.ok ⟨start, gin, gout, beds, scores, won⟩
    case false =>
      rw [hok] at hrl
      have HRL := Lib.hid hrl
      have HRE2 : Hid (RV = (tot0, (k : Int), 2)) := Lib.hid (by
        have h : vstF ⟨start, gin, gout, beds, scores, won⟩ = ([], 0, 2) := by unfold vstF; rw [if_neg (by rw [hok]; decide)]
        rw [HRE.out, HI.out.res, ofG_bad hlt (by rw [HLE.out, h]; decide), HLE.out, h])
      clear hrl hok
      have c0 : w2.cell? ⟨bb, bo + k * 6, none⟩ = some (.int .i64 start) := HW2.out.cell (HCELL.out 0 (.int .i64 start) rfl)
      have c1 : w2.cell? ⟨bb, bo + k * 6 + 1, none⟩ = some (.int .i64 gin) := HW2.out.cell (HCELL.out 1 (.int .i64 gin) rfl)
      have c2 : w2.cell? ⟨bb, bo + k * 6 + 2, none⟩ = some (.int .i64 gout) := HW2.out.cell (HCELL.out 2 (.int .i64 gout) rfl)
      have c3 : w2.cell? ⟨bb, bo + k * 6 + 3, none⟩ = some (.slice lba beds.length lbc) := HW2.out.cell (HCELL.out 3 (.slice lba beds.length lbc) rfl)
      have c4 : w2.cell? ⟨bb, bo + k * 6 + 4, none⟩ = some (.slice lsa scores.length lsc) := HW2.out.cell (HCELL.out 4 (.slice lsa scores.length lsc) rfl)
      have c5 : w2.cell? ⟨bb, bo + k * 6 + 5, none⟩ = some (.bool won) := HW2.out.cell (HCELL.out 5 (.bool won) rfl)
      have cl := lt_of_cell c0
      simp only at cl
      go_wp2_with fail
      refine (HRL.out _ HW2.out).mono ?_
      rintro e w3 ⟨rfl, hx3⟩
      have K03 := Lib.hid (K02.out.ext hx3)
      have HW3 := Lib.hid (HW2.out.trans hx3)
      clear hx3 c0 c1 c2 c3 c4 c5 cl
      have z0 := K03.out.cell 0 (v := .int .i64 0) rfl
      have zf0 := K03.out.frozen 0
      have z1 := K03.out.cell 1 (v := .int .i64 0) rfl
      have zf1 := K03.out.frozen 1
      have z2 := K03.out.cell 2 (v := .int .i64 0) rfl
      have zf2 := K03.out.frozen 2
      have z3 := K03.out.cell 3 (v := .int .i64 0) rfl
      have zf3 := K03.out.frozen 3
      have z4 := K03.out.cell 4 (v := .int .i64 0) rfl
      have zf4 := K03.out.frozen 4
      have z5 := K03.out.cell 5 (v := .int .i64 0) rfl
      have zf5 := K03.out.frozen 5
      have z6 := K03.out.cell 6 (v := .int .i64 0) rfl
      have zf6 := K03.out.frozen 6
      have z7 := K03.out.cell 7 (v := .int .i64 0) rfl
      have zf7 := K03.out.frozen 7
      have z8 := K03.out.cell 8 (v := .int .i64 0) rfl
      have zf8 := K03.out.frozen 8
      have z9 := K03.out.cell 9 (v := .int .i64 0) rfl
      have zf9 := K03.out.frozen 9
      have z10 := K03.out.cell 10 (v := .int .i64 0) rfl
      have zf10 := K03.out.frozen 10
      have z11 := K03.out.cell 11 (v := .int .i64 0) rfl
      have zf11 := K03.out.frozen 11
      have zl := K03.out.lt
      go_wp2
      have hT := twl_set (b := B) K03.out (.int .i64 0) (.int .i64 0) (.int .i64 0) (.int .i64 0) (.int .i64 0) (.int .i64 0) (.int .i64 0) (.int .i64 0) (.int .i64 0) (.int .i64 0) (.int .i64 0) (.int .i64 0)
      have hC := twl_chg (· = B) w3 (b := B) rfl (.int .i64 0) (.int .i64 0) (.int .i64 0) (.int .i64 0) (.int .i64 0) (.int .i64 0) (.int .i64 0) (.int .i64 0) (.int .i64 0) (.int .i64 0) (.int .i64 0) (.int .i64 0)
      generalize World.setCell _ _ _ = W3 at hT hC ⊢
      have y0 := hT.cell 0 (v := .int .i64 0) rfl
      have y1 := hT.cell 1 (v := .int .i64 0) rfl
      have y2 := hT.cell 2 (v := .int .i64 0) rfl
      have y3 := hT.cell 3 (v := .int .i64 0) rfl
      have y4 := hT.cell 4 (v := .int .i64 0) rfl
      have y5 := hT.cell 5 (v := .int .i64 0) rfl
      have y6 := hT.cell 6 (v := .int .i64 0) rfl
      have y7 := hT.cell 7 (v := .int .i64 0) rfl
      have y8 := hT.cell 8 (v := .int .i64 0) rfl
      have y9 := hT.cell 9 (v := .int .i64 0) rfl
      have y10 := hT.cell 10 (v := .int .i64 0) rfl
      have y11 := hT.cell 11 (v := .int .i64 0) rfl
      refine bodyPost_ret (v := .tuple #[.agg #[.int .i64 0, .int .i64 0, .int .i64 0, .int .i64 0, .int .i64 0, .int .i64 0, .int .i64 0, .int .i64 0, .int .i64 0, .int .i64 0, .int .i64 0, .int .i64 0], .int .i64 k, .int .i64 2]) (by simp [results, Try.results43, go_sem, y0, y1, y2, y3, y4, y5, y6, y7, y8, y9, y10, y11]) rfl ⟨by rw [HRE2.out]; rfl, Chg.to_ext HW3.out hC (by rintro i rfl; have h := HBB.out; omega)⟩
    case true =>
    rw [hok] at hrl
    have HRL := Lib.hid hrl
    have hv2 : vstF ⟨start, gin, gout, beds, scores, won⟩ = (match rvG gin gout beds (goT start scores won scores.length) 0 with | .inl r => ([] ++ r.map spnF, 0, 0) | .inr n => ([], (n : Int), 7)) := by
      unfold vstF
      rw [if_pos hok]
      exact visG_rv gin gout beds (goT start scores won scores.length) []
    obtain ⟨p1, p2, p3, p4, p5, p6, p7⟩ := ok_parts hok
    have hn9 : beds.length ≤ 9 := by have hbg := HBGL.out; unfold BigL at hbg; omega
    have hrv := fun W (hx : Ext w W) => ref_Visits start gin gout beds lba lbc scores lsa lsc won W p1 p2 p3 p4 hn9 (by omega) (fun x hx => ⟨p7 x hx, HS.out.i64 x hx⟩) (HB.out.cells.ext hx) (HS.out.cells.ext hx)
    obtain ⟨R, hR⟩ : ∃ y, rvG gin gout beds (goT start scores won scores.length) 0 = y := ⟨_, rfl⟩
    rw [hR] at hv2 hrv
    have HRVV := Lib.hid hrv
    have HR := Lib.hid hR
    have HV2 := Lib.hid hv2
    clear hrv hR hok hrl hv2
    have c0 : w2.cell? ⟨bb, bo + k * 6, none⟩ = some (.int .i64 start) := HW2.out.cell (HCELL.out 0 (.int .i64 start) rfl)
    have c1 : w2.cell? ⟨bb, bo + k * 6 + 1, none⟩ = some (.int .i64 gin) := HW2.out.cell (HCELL.out 1 (.int .i64 gin) rfl)
    have c2 : w2.cell? ⟨bb, bo + k * 6 + 2, none⟩ = some (.int .i64 gout) := HW2.out.cell (HCELL.out 2 (.int .i64 gout) rfl)
    have c3 : w2.cell? ⟨bb, bo + k * 6 + 3, none⟩ = some (.slice lba beds.length lbc) := HW2.out.cell (HCELL.out 3 (.slice lba beds.length lbc) rfl)
    have c4 : w2.cell? ⟨bb, bo + k * 6 + 4, none⟩ = some (.slice lsa scores.length lsc) := HW2.out.cell (HCELL.out 4 (.slice lsa scores.length lsc) rfl)
    have c5 : w2.cell? ⟨bb, bo + k * 6 + 5, none⟩ = some (.bool won) := HW2.out.cell (HCELL.out 5 (.bool won) rfl)
    have cl := lt_of_cell c0
    simp only at cl
    go_wp2_with fail
    refine (HRL.out _ HW2.out).mono ?_
    rintro e w3 ⟨rfl, hx3⟩
    have HX23 := Lib.hid hx3
    have HW3 := Lib.hid (HW2.out.trans hx3)
    clear hx3 c0 c1 c2 c3 c4 c5 cl
    have c0 : w3.cell? ⟨bb, bo + k * 6, none⟩ = some (.int .i64 start) := HW3.out.cell (HCELL.out 0 (.int .i64 start) rfl)
    have c1 : w3.cell? ⟨bb, bo + k * 6 + 1, none⟩ = some (.int .i64 gin) := HW3.out.cell (HCELL.out 1 (.int .i64 gin) rfl)
    have c2 : w3.cell? ⟨bb, bo + k * 6 + 2, none⟩ = some (.int .i64 gout) := HW3.out.cell (HCELL.out 2 (.int .i64 gout) rfl)
    have c3 : w3.cell? ⟨bb, bo + k * 6 + 3, none⟩ = some (.slice lba beds.length lbc) := HW3.out.cell (HCELL.out 3 (.slice lba beds.length lbc) rfl)
    have c4 : w3.cell? ⟨bb, bo + k * 6 + 4, none⟩ = some (.slice lsa scores.length lsc) := HW3.out.cell (HCELL.out 4 (.slice lsa scores.length lsc) rfl)
    have c5 : w3.cell? ⟨bb, bo + k * 6 + 5, none⟩ = some (.bool won) := HW3.out.cell (HCELL.out 5 (.bool won) rfl)
    have cl := lt_of_cell c0
    simp only at cl
    go_wp2_with fail
    refine (HRVV.out _ HW3.out).mono ?_
    rintro e w4 ⟨he, hx4⟩
    have HX24 := Lib.hid (HX23.out.trans hx4)
    have HW4 := Lib.hid (HW3.out.trans hx4)
    clear hx4 c0 c1 c2 c3 c4 c5 cl
    cases R with
    | inr n =>
      have he : e = .returned (.tuple #[.slice none 0 0, .int .i64 n, .bool false]) := he
      subst he
      have HRE2 : Hid (RV = (tot0, (k : Int), 7)) := Lib.hid (by
        have h : vstF ⟨start, gin, gout, beds, scores, won⟩ = ([], (n : Int), 7) := HV2.out
        rw [HRE.out, HI.out.res, ofG_bad hlt (by rw [HLE.out, h]; show (7 : Int) ≠ 0; decide), HLE.out, h])
      have K04 := Lib.hid (K02.out.ext HX24.out)
      have z0 := K04.out.cell 0 (v := .int .i64 0) rfl
      have zf0 := K04.out.frozen 0
      have z1 := K04.out.cell 1 (v := .int .i64 0) rfl
      have zf1 := K04.out.frozen 1
      have z2 := K04.out.cell 2 (v := .int .i64 0) rfl
      have zf2 := K04.out.frozen 2
      have z3 := K04.out.cell 3 (v := .int .i64 0) rfl
      have zf3 := K04.out.frozen 3
      have z4 := K04.out.cell 4 (v := .int .i64 0) rfl
      have zf4 := K04.out.frozen 4
      have z5 := K04.out.cell 5 (v := .int .i64 0) rfl
      have zf5 := K04.out.frozen 5
      have z6 := K04.out.cell 6 (v := .int .i64 0) rfl
      have zf6 := K04.out.frozen 6
      have z7 := K04.out.cell 7 (v := .int .i64 0) rfl
      have zf7 := K04.out.frozen 7
      have z8 := K04.out.cell 8 (v := .int .i64 0) rfl
      have zf8 := K04.out.frozen 8
      have z9 := K04.out.cell 9 (v := .int .i64 0) rfl
      have zf9 := K04.out.frozen 9
      have z10 := K04.out.cell 10 (v := .int .i64 0) rfl
      have zf10 := K04.out.frozen 10
      have z11 := K04.out.cell 11 (v := .int .i64 0) rfl
      have zf11 := K04.out.frozen 11
      have zl := K04.out.lt
      go_wp2
      have hT := twl_set (b := B) K04.out (.int .i64 0) (.int .i64 0) (.int .i64 0) (.int .i64 0) (.int .i64 0) (.int .i64 0) (.int .i64 0) (.int .i64 0) (.int .i64 0) (.int .i64 0) (.int .i64 0) (.int .i64 0)
      have hC := twl_chg (· = B) w4 (b := B) rfl (.int .i64 0) (.int .i64 0) (.int .i64 0) (.int .i64 0) (.int .i64 0) (.int .i64 0) (.int .i64 0) (.int .i64 0) (.int .i64 0) (.int .i64 0) (.int .i64 0) (.int .i64 0)
      generalize World.setCell _ _ _ = W3 at hT hC ⊢
      have y0 := hT.cell 0 (v := .int .i64 0) rfl
      have y1 := hT.cell 1 (v := .int .i64 0) rfl
      have y2 := hT.cell 2 (v := .int .i64 0) rfl
      have y3 := hT.cell 3 (v := .int .i64 0) rfl
      have y4 := hT.cell 4 (v := .int .i64 0) rfl
      have y5 := hT.cell 5 (v := .int .i64 0) rfl
      have y6 := hT.cell 6 (v := .int .i64 0) rfl
      have y7 := hT.cell 7 (v := .int .i64 0) rfl
      have y8 := hT.cell 8 (v := .int .i64 0) rfl
      have y9 := hT.cell 9 (v := .int .i64 0) rfl
      have y10 := hT.cell 10 (v := .int .i64 0) rfl
      have y11 := hT.cell 11 (v := .int .i64 0) rfl
      refine bodyPost_ret (v := .tuple #[.agg #[.int .i64 0, .int .i64 0, .int .i64 0, .int .i64 0, .int .i64 0, .int .i64 0, .int .i64 0, .int .i64 0, .int .i64 0, .int .i64 0, .int .i64 0, .int .i64 0], .int .i64 k, .int .i64 7]) (by simp [results, Try.results43, go_sem, y0, y1, y2, y3, y4, y5, y6, y7, y8, y9, y10, y11]) rfl ⟨by rw [HRE2.out]; rfl, Chg.to_ext HW4.out hC (by rintro i rfl; have h := HBB.out; omega)⟩
    | inl vs =>
      obtain ⟨rv, b2, he, hvr, -⟩ := he
      subst he
      obtain ⟨ra, rc, rfl⟩ := hvr.shape
      obtain ⟨hlen2, hmem⟩ := rvG_inl _ _ _ HR.out
      rw [goT_len] at hlen2
      have hsz : ∀ l ∈ vs, l.length ≤ 1000000 ∧ ∀ x ∈ l, x.beds.length ≤ 1000 := fun l hl => by
        obtain ⟨s, -, rfl⟩ := hmem l hl
        refine ⟨Nat.le_trans (allF_len hn9 3 _ _ _ _ _) (by decide), fun x hx => ?_⟩
        have h := allF_beds 3 _ _ _ _ _ x hx
        simp only [List.length_nil] at h
        omega
      have hsp := ref_Spans vs _ _ b2 w4 hvr (by omega) hsz
      have HSP := Lib.hid hsp
      have HLN : Hid ((vs.map spnF).length = scores.length) := Lib.hid (by rw [List.length_map]; exact hlen2)
      have HV3 : Hid (vstF ⟨start, gin, gout, beds, scores, won⟩ = (vs.map spnF, 0, 0)) := Lib.hid HV2.out
      obtain ⟨XS, hXS⟩ : ∃ y, vs.map spnF = y := ⟨_, rfl⟩
      rw [hXS] at HSP HLN HV3
      have HVR := Lib.hid hvr
      clear hsp hlen2 hmem hsz hvr hXS HV2 HR HRVV HRL
      go_wp2_with fail
      refine HSP.out.mono ?_
      rintro e w5 ⟨sv, rfl, hos, hx5⟩
      obtain ⟨n, hn0⟩ : ∃ n, scores.length = n := ⟨_, rfl⟩
      obtain ⟨xa, xc, rfl⟩ := hos.shape
      have HOS := Lib.hid hos
      have HX25 := Lib.hid (HX24.out.trans hx5)
      have HW5 := Lib.hid (HW4.out.trans hx5)
      have HT5 := Lib.hid (HI.out.tot.ext (HX24.out.trans hx5))
      unfold Tot.cells at HT5
      have HKW : Hid (k7 < w4.heap.size ∧ w.heap.size ≤ B) := Lib.hid ⟨by have h1 := HI.out.tot.lt; have h2 := HX24.out.size; omega, by rw [HBB.out]; exact Nat.le_refl _⟩
      clear hos hx5
      have z0 := HT5.out.cell 0 (v := .int .i64 t.legs) rfl
      have zf0 := HT5.out.frozen 0
      have zl := HT5.out.lt
      go_upto_region 14 with fail
      have hT : Blk _ k7 (oneMore t).cells := HT5.out.set 0 (.int .i64 (wrap64 (t.legs + 1)))
      have hC := (Chg.refl (· = k7) w5).setCell (p := ⟨k7, 0, none⟩) (.inr rfl) (.int .i64 (wrap64 (t.legs + 1)))
      generalize World.setCell _ _ _ = wd at hT hC ⊢
      have HTD := Lib.hid hT
      have HCD := Lib.hid hC
      clear z0 zf0 zl hT hC
      go_wp2
      go_loopw [13] (fun i wq => ∃ j : Nat, j ≤ scores.length ∧ i = .int .i64 j ∧ Blk wq k7 (legT most ⟨start, gin, gout, beds, scores, won⟩ XS (oneMore t) j).cells ∧ Chg (· = k7) wd wq) (fun i _ => scores.length - (intOf i).toNat)
      case atStart => exact ⟨0, Nat.zero_le _, rfl, HTD.out, Chg.refl _ _⟩
      case round =>
        obtain ⟨j, hj, rfl, hbq, hcq⟩ := hrel
        obtain ⟨wq, rfl⟩ : ∃ x, x = wr := ⟨_, rfl⟩
        have HBQ := Lib.hid hbq
        have HCQ := Lib.hid hcq
        have hch : Chg (· = k7) w5 wq := HCD.out.trans hcq
        have HC5 := Lib.hid hch
        clear hbq hcq hch
        by_cases hgo : j < scores.length ∧ (j : Int) < most
        case neg =>
          have HRE2 : Hid (legT most ⟨start, gin, gout, beds, scores, won⟩ XS (oneMore t) scores.length = legT most ⟨start, gin, gout, beds, scores, won⟩ XS (oneMore t) j) := Lib.hid (by
            by_cases h : (j : Int) < most
            · rw [show scores.length = j by omega]
            · exact legT_stop (by omega) _ hj)
          have HNX : Hid (TlI most ls B k7 w1 (k + 1) (legT most ⟨start, gin, gout, beds, scores, won⟩ XS (oneMore t) scores.length) wq) := Lib.hid ⟨hlt, by
            have h := ofG_ok (most := most) (t := t) hlt (by rw [HLE.out, HV3.out])
            rw [HLE.out, HV3.out] at h
            rw [HI.out.res, h], by rw [HRE2.out]; exact HBQ.out, (HI.out.chg.trans (HX25.out.chg _)).trans HC5.out⟩
          have hxl : XS.length = scores.length := HLN.out
          by_cases h1 : j < scores.length
          · have h2 : ¬ (j : Int) < most := fun h => hgo ⟨h1, h⟩
            have h1' : (j : Int) < (XS.length : Int) := by omega
            clear hxl hn0
            go_wp2
            go_roundw
            case rel => exact ⟨k + 1, _, by go_num, HNX.out⟩
            case measure => simp [intOf]; omega
          · have h1' : ¬ (j : Int) < (XS.length : Int) := by omega
            clear hxl hn0
            go_wp2
            go_roundw
            case rel => exact ⟨k + 1, _, by go_num, HNX.out⟩
            case measure => simp [intOf]; omega
        case pos =>
        obtain ⟨hjl, hjm⟩ := hgo
        have hjx : j < XS.length := by rw [HLN.out]; exact hjl
        have hjx' : (j : Int) < (XS.length : Int) := by omega
        obtain ⟨g1, q1, e1, hg1, hg2, f1⟩ := HOS.out.at j hjx
        cases e1
        obtain ⟨xe, hxe⟩ : ∃ y, XS[j] = y := ⟨_, rfl⟩
        rw [hxe] at f1
        have HXD : Hid (XS.getD j noEx = xe) := Lib.hid (by rw [← hxe]; simp [List.getD_eq_getElem?_getD, hjx])
        obtain ⟨xb, xo, rfl, s0⟩ := HS.out.cells j hjl
        obtain ⟨x, hx⟩ : ∃ y, scores[j] = y := ⟨_, rfl⟩
        rw [hx] at s0
        have HGD : Hid (scores.getD j 0 = x) := Lib.hid (by rw [← hx]; simp [List.getD_eq_getElem?_getD, hjl])
        obtain ⟨TV, hTV⟩ : ∃ y, legT most ⟨start, gin, gout, beds, scores, won⟩ XS (oneMore t) j = y := ⟨_, rfl⟩
        rw [hTV] at HBQ
        have HTV : Hid (Blk wq k7 TV.cells) := Lib.hid HBQ.out
        unfold Tot.cells at HTV
        have HLT := Lib.hid hTV
        have q0 : ∀ y : Lat (fun b _ => b = k7) wq, y.world.cell? ⟨bb, bo + k * 6 + 4, none⟩ = some (.slice (some ⟨xb, xo, none⟩) scores.length lsc) := fun y => y.chg.cell (HC5.out.cell (HW5.out.cell (HCELL.out 4 _ rfl)) (fun e => by have h := lt_of_cell (HCELL.out 4 _ rfl); have h1 := HKW.out; have h2 := HBK.out; simp only at e h; omega)) (by rintro ⟨_, e⟩; have h := lt_of_cell (HCELL.out 4 _ rfl); have h1 := HKW.out; have h2 := HBK.out; simp only at e h; omega)
        have q1 : ∀ y : Lat (fun b _ => b = k7) wq, y.world.cell? ⟨bb, bo + k * 6 + 5, none⟩ = some (.bool won) := fun y => y.chg.cell (HC5.out.cell (HW5.out.cell (HCELL.out 5 _ rfl)) (fun e => by have h := lt_of_cell (HCELL.out 5 _ rfl); have h1 := HKW.out; have h2 := HBK.out; simp only at e h; omega)) (by rintro ⟨_, e⟩; have h := lt_of_cell (HCELL.out 5 _ rfl); have h1 := HKW.out; have h2 := HBK.out; simp only at e h; omega)
        have q2 : ∀ y : Lat (fun b _ => b = k7) wq, y.world.cell? ⟨xb, xo + j, none⟩ = some (.int .i64 x) := fun y => y.chg.cell (HC5.out.cell (HW5.out.cell s0) (fun e => by have h := lt_of_cell s0; have h1 := HKW.out; have h2 := HBK.out; simp only at e h; omega)) (by rintro ⟨_, e⟩; have h := lt_of_cell s0; have h1 := HKW.out; have h2 := HBK.out; simp only at e h; omega)
        have x0 : ∀ y : Lat (fun b _ => b = k7) wq, y.world.cell? ⟨g1, j * 4, none⟩ = some (.int .i64 xe.dl) := fun y => y.chg.cell (HC5.out.cell (f1 0 _ rfl) (fun e => by have h1 := HKW.out; simp only at e; omega)) (by rintro ⟨_, e⟩; have h1 := HKW.out; simp only at e; omega)
        have x1 : ∀ y : Lat (fun b _ => b = k7) wq, y.world.cell? ⟨g1, j * 4 + 1, none⟩ = some (.int .i64 xe.dh) := fun y => y.chg.cell (HC5.out.cell (f1 1 _ rfl) (fun e => by have h1 := HKW.out; simp only at e; omega)) (by rintro ⟨_, e⟩; have h1 := HKW.out; simp only at e; omega)
        have x2 : ∀ y : Lat (fun b _ => b = k7) wq, y.world.cell? ⟨g1, j * 4 + 2, none⟩ = some (.int .i64 xe.tl) := fun y => y.chg.cell (HC5.out.cell (f1 2 _ rfl) (fun e => by have h1 := HKW.out; simp only at e; omega)) (by rintro ⟨_, e⟩; have h1 := HKW.out; simp only at e; omega)
        have x3 : ∀ y : Lat (fun b _ => b = k7) wq, y.world.cell? ⟨g1, j * 4 + 3, none⟩ = some (.int .i64 xe.th) := fun y => y.chg.cell (HC5.out.cell (f1 3 _ rfl) (fun e => by have h1 := HKW.out; simp only at e; omega)) (by rintro ⟨_, e⟩; have h1 := HKW.out; simp only at e; omega)
        have ql0 : bb < wq.heap.size := by have h := lt_of_cell (HCELL.out 4 _ rfl); have h1 := HW5.out.size; have h2 := HC5.out.size; simp only at h; omega
        have ql1 : xb < wq.heap.size := by have h := lt_of_cell s0; have h1 := HW5.out.size; have h2 := HC5.out.size; simp only at h; omega
        have ql2 : g1 < wq.heap.size := by have h2 := HC5.out.size; omega
        have q3 := ql0
        have q4 := ql0
        clear hTV hx s0 hxe f1 hn0
        have hxs : XS.length = scores.length := HLN.out
        have hwn : wrap64 ((XS.length : Int) - 1) = (XS.length : Int) - 1 := wrap64_in' ⟨by omega, by omega⟩
        have HGW : Hid ((gAt start scores won j).g = ⟨x, won && decide (j + 1 = scores.length)⟩) := Lib.hid (by unfold gAt; rw [HGD.out])
        cases won
        · have HGA : Hid ((gAt start scores false j).g = ⟨x, false⟩) := Lib.hid (by rw [HGW.out]; rfl)
          clear hxs
          go_upto_region 17 with fail
          refine wp_region_lat (by kernel_rfl) (fun b _ => b = k7) (fun k => (k == 0) || ((k == 26))) (RsIs [(0, .agg #[.int .i64 TV.legs, .int .i64 TV.won, .int .i64 TV.visits, .int .i64 TV.points, .int .i64 TV.darts.lo, .int .i64 TV.darts.hi, .int .i64 TV.tried.lo, .int .i64 TV.tried.hi, .int .i64 TV.tons, .int .i64 TV.highs, .int .i64 TV.tops, .int .i64 TV.best])]) (fun L _ W => Blk W k7 (bif L 26 then #[.int .i64 (sumS TV xe ⟨x, false⟩).legs, .int .i64 (sumS TV xe ⟨x, false⟩).won, .int .i64 (sumS TV xe ⟨x, false⟩).visits, .int .i64 (sumS TV xe ⟨x, false⟩).points, .int .i64 (sumS TV xe ⟨x, false⟩).darts.lo, .int .i64 (sumS TV xe ⟨x, false⟩).darts.hi, .int .i64 (sumS TV xe ⟨x, false⟩).tried.lo, .int .i64 (sumS TV xe ⟨x, false⟩).tried.hi, .int .i64 (sumS TV xe ⟨x, false⟩).tons, .int .i64 (sumS TV xe ⟨x, false⟩).highs, .int .i64 (sumS TV xe ⟨x, false⟩).tops, .int .i64 (sumS TV xe ⟨x, false⟩).best] else #[.int .i64 TV.legs, .int .i64 TV.won, .int .i64 TV.visits, .int .i64 TV.points, .int .i64 TV.darts.lo, .int .i64 TV.darts.hi, .int .i64 TV.tried.lo, .int .i64 TV.tried.hi, .int .i64 TV.tons, .int .i64 TV.highs, .int .i64 TV.tops, .int .i64 TV.best])) (by kernel_rfl)
            (fun k hk => by
              simp only [Bool.or_eq_true, beq_iff_eq] at hk
              rcases hk with rfl | rfl <;> decide)
            (fun L L' u w' h hg => by first | (rw [h 26 (by rfl)]; exact hg) | exact hg) (fun L u a b h hx => h.ext hx) (rsW [(0, .agg #[.int .i64 TV.legs, .int .i64 TV.won, .int .i64 TV.visits, .int .i64 TV.points, .int .i64 TV.darts.lo, .int .i64 TV.darts.hi, .int .i64 TV.tried.lo, .int .i64 TV.tried.hi, .int .i64 TV.tons, .int .i64 TV.highs, .int .i64 TV.tops, .int .i64 TV.best])]) (fun k _ => rsW_ok _ k) (HTV.out.ext (Ext.refl wq).drew) ?_
          intro T hT hne2 u hu
          have e_0 : u 0 = .agg #[.int .i64 TV.legs, .int .i64 TV.won, .int .i64 TV.visits, .int .i64 TV.points, .int .i64 TV.darts.lo, .int .i64 TV.darts.hi, .int .i64 TV.tried.lo, .int .i64 TV.tried.hi, .int .i64 TV.tons, .int .i64 TV.highs, .int .i64 TV.tops, .int .i64 TV.best] := hu 0 rfl
          refine lx_loud (by rfl) (by kernel_rfl) ?_ (fun K hK => ?_)
          · intro L w4 hL hd hcl hC hs
            obtain ⟨y, rfl⟩ := hC
            have d26 := hcl.off hL 40 26 (by kernel_rfl)
            rw [d26] at hs
            have hs : Blk y.world k7 #[.int .i64 TV.legs, .int .i64 TV.won, .int .i64 TV.visits, .int .i64 TV.points, .int .i64 TV.darts.lo, .int .i64 TV.darts.hi, .int .i64 TV.tried.lo, .int .i64 TV.tried.hi, .int .i64 TV.tons, .int .i64 TV.highs, .int .i64 TV.tops, .int .i64 TV.best] := hs
            have r0 := hs.cell 0 (v := .int .i64 TV.legs) rfl
            have r1 := hs.cell 1 (v := .int .i64 TV.won) rfl
            have r2 := hs.cell 2 (v := .int .i64 TV.visits) rfl
            have r3 := hs.cell 3 (v := .int .i64 TV.points) rfl
            have r4 := hs.cell 4 (v := .int .i64 TV.darts.lo) rfl
            have r5 := hs.cell 5 (v := .int .i64 TV.darts.hi) rfl
            have r6 := hs.cell 6 (v := .int .i64 TV.tried.lo) rfl
            have r7 := hs.cell 7 (v := .int .i64 TV.tried.hi) rfl
            have r8 := hs.cell 8 (v := .int .i64 TV.tons) rfl
            have r9 := hs.cell 9 (v := .int .i64 TV.highs) rfl
            have r10 := hs.cell 10 (v := .int .i64 TV.tops) rfl
            have r11 := hs.cell 11 (v := .int .i64 TV.best) rfl
            have rl := hs.lt
            have HS := Lib.hid hs
            have D26 := Lib.hid d26
            have HLL := Lib.hid hL
            clear hs hd hcl hL d26
            go_wp2
            exact ⟨rfl, ⟨y, rfl⟩, by first | (rw [show upd L 0 26 = L 26 from rfl, D26.out]; exact HS.out) | exact HS.out⟩
          rw [e_0]
          go_simp
          with_reducible refine hK _ ?_
          clear hK K
          refine lx_next 25 (by rfl) (by decide) ?_
          dsimp only [List.take, List.drop]
          repeat (go_big_quiet_step (first | with_reducible refine Calls.lat hT (ref_Sum TV xe ⟨x, false⟩ _)))
          refine wpQuiet_nil ?_
          refine lx_loud (by rfl) (by kernel_rfl) ?_ (fun K hK => ?_)
          · intro L w4 hL hd hcl hC hs
            obtain ⟨y, rfl⟩ := hC
            rw [hL] at hs
            have hs : Blk y.world k7 #[.int .i64 TV.legs, .int .i64 TV.won, .int .i64 TV.visits, .int .i64 TV.points, .int .i64 TV.darts.lo, .int .i64 TV.darts.hi, .int .i64 TV.tried.lo, .int .i64 TV.tried.hi, .int .i64 TV.tons, .int .i64 TV.highs, .int .i64 TV.tops, .int .i64 TV.best] := hs
            have r0 := hs.cell 0 (v := .int .i64 TV.legs) rfl
            have r1 := hs.cell 1 (v := .int .i64 TV.won) rfl
            have r2 := hs.cell 2 (v := .int .i64 TV.visits) rfl
            have r3 := hs.cell 3 (v := .int .i64 TV.points) rfl
            have r4 := hs.cell 4 (v := .int .i64 TV.darts.lo) rfl
            have r5 := hs.cell 5 (v := .int .i64 TV.darts.hi) rfl
            have r6 := hs.cell 6 (v := .int .i64 TV.tried.lo) rfl
            have r7 := hs.cell 7 (v := .int .i64 TV.tried.hi) rfl
            have r8 := hs.cell 8 (v := .int .i64 TV.tons) rfl
            have r9 := hs.cell 9 (v := .int .i64 TV.highs) rfl
            have r10 := hs.cell 10 (v := .int .i64 TV.tops) rfl
            have r11 := hs.cell 11 (v := .int .i64 TV.best) rfl
            have rf0 := hs.frozen 0
            have rf1 := hs.frozen 1
            have rf2 := hs.frozen 2
            have rf3 := hs.frozen 3
            have rf4 := hs.frozen 4
            have rf5 := hs.frozen 5
            have rf6 := hs.frozen 6
            have rf7 := hs.frozen 7
            have rf8 := hs.frozen 8
            have rf9 := hs.frozen 9
            have rf10 := hs.frozen 10
            have rf11 := hs.frozen 11
            have rl := hs.lt
            have HS := Lib.hid hs
            have HLL := Lib.hid hL
            clear hs hd hcl hL
            go_wp2
            have hb0 : Blk _ k7 #[.int .i64 (sumS TV xe ⟨x, false⟩).legs, .int .i64 TV.won, .int .i64 TV.visits, .int .i64 TV.points, .int .i64 TV.darts.lo, .int .i64 TV.darts.hi, .int .i64 TV.tried.lo, .int .i64 TV.tried.hi, .int .i64 TV.tons, .int .i64 TV.highs, .int .i64 TV.tops, .int .i64 TV.best] := HS.out.set 0 (.int .i64 (sumS TV xe ⟨x, false⟩).legs)
            have hb1 : Blk _ k7 #[.int .i64 (sumS TV xe ⟨x, false⟩).legs, .int .i64 (sumS TV xe ⟨x, false⟩).won, .int .i64 TV.visits, .int .i64 TV.points, .int .i64 TV.darts.lo, .int .i64 TV.darts.hi, .int .i64 TV.tried.lo, .int .i64 TV.tried.hi, .int .i64 TV.tons, .int .i64 TV.highs, .int .i64 TV.tops, .int .i64 TV.best] := hb0.set 1 (.int .i64 (sumS TV xe ⟨x, false⟩).won)
            have hb2 : Blk _ k7 #[.int .i64 (sumS TV xe ⟨x, false⟩).legs, .int .i64 (sumS TV xe ⟨x, false⟩).won, .int .i64 (sumS TV xe ⟨x, false⟩).visits, .int .i64 TV.points, .int .i64 TV.darts.lo, .int .i64 TV.darts.hi, .int .i64 TV.tried.lo, .int .i64 TV.tried.hi, .int .i64 TV.tons, .int .i64 TV.highs, .int .i64 TV.tops, .int .i64 TV.best] := hb1.set 2 (.int .i64 (sumS TV xe ⟨x, false⟩).visits)
            have hb3 : Blk _ k7 #[.int .i64 (sumS TV xe ⟨x, false⟩).legs, .int .i64 (sumS TV xe ⟨x, false⟩).won, .int .i64 (sumS TV xe ⟨x, false⟩).visits, .int .i64 (sumS TV xe ⟨x, false⟩).points, .int .i64 TV.darts.lo, .int .i64 TV.darts.hi, .int .i64 TV.tried.lo, .int .i64 TV.tried.hi, .int .i64 TV.tons, .int .i64 TV.highs, .int .i64 TV.tops, .int .i64 TV.best] := hb2.set 3 (.int .i64 (sumS TV xe ⟨x, false⟩).points)
            have hb4 : Blk _ k7 #[.int .i64 (sumS TV xe ⟨x, false⟩).legs, .int .i64 (sumS TV xe ⟨x, false⟩).won, .int .i64 (sumS TV xe ⟨x, false⟩).visits, .int .i64 (sumS TV xe ⟨x, false⟩).points, .int .i64 (sumS TV xe ⟨x, false⟩).darts.lo, .int .i64 TV.darts.hi, .int .i64 TV.tried.lo, .int .i64 TV.tried.hi, .int .i64 TV.tons, .int .i64 TV.highs, .int .i64 TV.tops, .int .i64 TV.best] := hb3.set 4 (.int .i64 (sumS TV xe ⟨x, false⟩).darts.lo)
            have hb5 : Blk _ k7 #[.int .i64 (sumS TV xe ⟨x, false⟩).legs, .int .i64 (sumS TV xe ⟨x, false⟩).won, .int .i64 (sumS TV xe ⟨x, false⟩).visits, .int .i64 (sumS TV xe ⟨x, false⟩).points, .int .i64 (sumS TV xe ⟨x, false⟩).darts.lo, .int .i64 (sumS TV xe ⟨x, false⟩).darts.hi, .int .i64 TV.tried.lo, .int .i64 TV.tried.hi, .int .i64 TV.tons, .int .i64 TV.highs, .int .i64 TV.tops, .int .i64 TV.best] := hb4.set 5 (.int .i64 (sumS TV xe ⟨x, false⟩).darts.hi)
            have hb6 : Blk _ k7 #[.int .i64 (sumS TV xe ⟨x, false⟩).legs, .int .i64 (sumS TV xe ⟨x, false⟩).won, .int .i64 (sumS TV xe ⟨x, false⟩).visits, .int .i64 (sumS TV xe ⟨x, false⟩).points, .int .i64 (sumS TV xe ⟨x, false⟩).darts.lo, .int .i64 (sumS TV xe ⟨x, false⟩).darts.hi, .int .i64 (sumS TV xe ⟨x, false⟩).tried.lo, .int .i64 TV.tried.hi, .int .i64 TV.tons, .int .i64 TV.highs, .int .i64 TV.tops, .int .i64 TV.best] := hb5.set 6 (.int .i64 (sumS TV xe ⟨x, false⟩).tried.lo)
            have hb7 : Blk _ k7 #[.int .i64 (sumS TV xe ⟨x, false⟩).legs, .int .i64 (sumS TV xe ⟨x, false⟩).won, .int .i64 (sumS TV xe ⟨x, false⟩).visits, .int .i64 (sumS TV xe ⟨x, false⟩).points, .int .i64 (sumS TV xe ⟨x, false⟩).darts.lo, .int .i64 (sumS TV xe ⟨x, false⟩).darts.hi, .int .i64 (sumS TV xe ⟨x, false⟩).tried.lo, .int .i64 (sumS TV xe ⟨x, false⟩).tried.hi, .int .i64 TV.tons, .int .i64 TV.highs, .int .i64 TV.tops, .int .i64 TV.best] := hb6.set 7 (.int .i64 (sumS TV xe ⟨x, false⟩).tried.hi)
            have hb8 : Blk _ k7 #[.int .i64 (sumS TV xe ⟨x, false⟩).legs, .int .i64 (sumS TV xe ⟨x, false⟩).won, .int .i64 (sumS TV xe ⟨x, false⟩).visits, .int .i64 (sumS TV xe ⟨x, false⟩).points, .int .i64 (sumS TV xe ⟨x, false⟩).darts.lo, .int .i64 (sumS TV xe ⟨x, false⟩).darts.hi, .int .i64 (sumS TV xe ⟨x, false⟩).tried.lo, .int .i64 (sumS TV xe ⟨x, false⟩).tried.hi, .int .i64 (sumS TV xe ⟨x, false⟩).tons, .int .i64 TV.highs, .int .i64 TV.tops, .int .i64 TV.best] := hb7.set 8 (.int .i64 (sumS TV xe ⟨x, false⟩).tons)
            have hb9 : Blk _ k7 #[.int .i64 (sumS TV xe ⟨x, false⟩).legs, .int .i64 (sumS TV xe ⟨x, false⟩).won, .int .i64 (sumS TV xe ⟨x, false⟩).visits, .int .i64 (sumS TV xe ⟨x, false⟩).points, .int .i64 (sumS TV xe ⟨x, false⟩).darts.lo, .int .i64 (sumS TV xe ⟨x, false⟩).darts.hi, .int .i64 (sumS TV xe ⟨x, false⟩).tried.lo, .int .i64 (sumS TV xe ⟨x, false⟩).tried.hi, .int .i64 (sumS TV xe ⟨x, false⟩).tons, .int .i64 (sumS TV xe ⟨x, false⟩).highs, .int .i64 TV.tops, .int .i64 TV.best] := hb8.set 9 (.int .i64 (sumS TV xe ⟨x, false⟩).highs)
            have hb10 : Blk _ k7 #[.int .i64 (sumS TV xe ⟨x, false⟩).legs, .int .i64 (sumS TV xe ⟨x, false⟩).won, .int .i64 (sumS TV xe ⟨x, false⟩).visits, .int .i64 (sumS TV xe ⟨x, false⟩).points, .int .i64 (sumS TV xe ⟨x, false⟩).darts.lo, .int .i64 (sumS TV xe ⟨x, false⟩).darts.hi, .int .i64 (sumS TV xe ⟨x, false⟩).tried.lo, .int .i64 (sumS TV xe ⟨x, false⟩).tried.hi, .int .i64 (sumS TV xe ⟨x, false⟩).tons, .int .i64 (sumS TV xe ⟨x, false⟩).highs, .int .i64 (sumS TV xe ⟨x, false⟩).tops, .int .i64 TV.best] := hb9.set 10 (.int .i64 (sumS TV xe ⟨x, false⟩).tops)
            have hb11 : Blk _ k7 #[.int .i64 (sumS TV xe ⟨x, false⟩).legs, .int .i64 (sumS TV xe ⟨x, false⟩).won, .int .i64 (sumS TV xe ⟨x, false⟩).visits, .int .i64 (sumS TV xe ⟨x, false⟩).points, .int .i64 (sumS TV xe ⟨x, false⟩).darts.lo, .int .i64 (sumS TV xe ⟨x, false⟩).darts.hi, .int .i64 (sumS TV xe ⟨x, false⟩).tried.lo, .int .i64 (sumS TV xe ⟨x, false⟩).tried.hi, .int .i64 (sumS TV xe ⟨x, false⟩).tons, .int .i64 (sumS TV xe ⟨x, false⟩).highs, .int .i64 (sumS TV xe ⟨x, false⟩).tops, .int .i64 (sumS TV xe ⟨x, false⟩).best] := hb10.set 11 (.int .i64 (sumS TV xe ⟨x, false⟩).best)
            exact ⟨trivial, ⟨y.chgd (((((((((((((Chg.refl (· = k7) y.world).setCell (.inr rfl) (.int .i64 (sumS TV xe ⟨x, false⟩).legs)).setCell (.inr rfl) (.int .i64 (sumS TV xe ⟨x, false⟩).won)).setCell (.inr rfl) (.int .i64 (sumS TV xe ⟨x, false⟩).visits)).setCell (.inr rfl) (.int .i64 (sumS TV xe ⟨x, false⟩).points)).setCell (.inr rfl) (.int .i64 (sumS TV xe ⟨x, false⟩).darts.lo)).setCell (.inr rfl) (.int .i64 (sumS TV xe ⟨x, false⟩).darts.hi)).setCell (.inr rfl) (.int .i64 (sumS TV xe ⟨x, false⟩).tried.lo)).setCell (.inr rfl) (.int .i64 (sumS TV xe ⟨x, false⟩).tried.hi)).setCell (.inr rfl) (.int .i64 (sumS TV xe ⟨x, false⟩).tons)).setCell (.inr rfl) (.int .i64 (sumS TV xe ⟨x, false⟩).highs)).setCell (.inr rfl) (.int .i64 (sumS TV xe ⟨x, false⟩).tops)).setCell (.inr rfl) (.int .i64 (sumS TV xe ⟨x, false⟩).best)) (fun b hb => .inr fun _ => hb), rfl⟩, by first | (rw [show upd L 26 26 = true from rfl]; exact hb11) | exact hb0⟩
          go_simp
          with_reducible refine hK _ ?_
          clear hK K
          refine lx_nil ?_
          intro y hs
          have HTN : Hid (Blk y.world k7 #[.int .i64 (sumS TV xe ⟨x, false⟩).legs, .int .i64 (sumS TV xe ⟨x, false⟩).won, .int .i64 (sumS TV xe ⟨x, false⟩).visits, .int .i64 (sumS TV xe ⟨x, false⟩).points, .int .i64 (sumS TV xe ⟨x, false⟩).darts.lo, .int .i64 (sumS TV xe ⟨x, false⟩).darts.hi, .int .i64 (sumS TV xe ⟨x, false⟩).tried.lo, .int .i64 (sumS TV xe ⟨x, false⟩).tried.hi, .int .i64 (sumS TV xe ⟨x, false⟩).tons, .int .i64 (sumS TV xe ⟨x, false⟩).highs, .int .i64 (sumS TV xe ⟨x, false⟩).tops, .int .i64 (sumS TV xe ⟨x, false⟩).best]) := Lib.hid hs
          have HCw9 : Hid (Chg (· = k7) wq y.world) := Lib.hid (y.chg.mono (by rintro q - ⟨_, e⟩; exact e))
          clear hs hu hT hne2 e_0 q0 q1 q2 q3 q4 x0 x1 x2 x3 ql0 ql1 ql2
          generalize y.world = w9 at *
          clear y
          go_wp2
          go_roundw
          case rel => exact ⟨j + 1, by omega, by go_num, by rw [legT, if_pos hjm, HXD.out, HGA.out, HLT.out]; exact HTN.out, HCQ.out.trans HCw9.out⟩
          case measure => simp [intOf]; omega
        · by_cases hk1 : j + 1 = scores.length
          · have HGA : Hid ((gAt start scores true j).g = ⟨x, true⟩) := Lib.hid (by rw [HGW.out]; simp [hk1])
            have hk2 : (j : Int) = (XS.length : Int) - 1 := by omega
            have hk3 : ((j : Int) == (XS.length : Int) - 1) = true := by rw [hk2]; simp
            have HK2 := Lib.hid hk2
            clear hxs hk1 hk2
            go_upto_region 17 with fail
            refine wp_region_lat (by kernel_rfl) (fun b _ => b = k7) (fun k => (k == 0) || ((k == 26))) (RsIs [(0, .agg #[.int .i64 TV.legs, .int .i64 TV.won, .int .i64 TV.visits, .int .i64 TV.points, .int .i64 TV.darts.lo, .int .i64 TV.darts.hi, .int .i64 TV.tried.lo, .int .i64 TV.tried.hi, .int .i64 TV.tons, .int .i64 TV.highs, .int .i64 TV.tops, .int .i64 TV.best])]) (fun L _ W => Blk W k7 (bif L 26 then #[.int .i64 (sumS TV xe ⟨x, true⟩).legs, .int .i64 (sumS TV xe ⟨x, true⟩).won, .int .i64 (sumS TV xe ⟨x, true⟩).visits, .int .i64 (sumS TV xe ⟨x, true⟩).points, .int .i64 (sumS TV xe ⟨x, true⟩).darts.lo, .int .i64 (sumS TV xe ⟨x, true⟩).darts.hi, .int .i64 (sumS TV xe ⟨x, true⟩).tried.lo, .int .i64 (sumS TV xe ⟨x, true⟩).tried.hi, .int .i64 (sumS TV xe ⟨x, true⟩).tons, .int .i64 (sumS TV xe ⟨x, true⟩).highs, .int .i64 (sumS TV xe ⟨x, true⟩).tops, .int .i64 (sumS TV xe ⟨x, true⟩).best] else #[.int .i64 TV.legs, .int .i64 TV.won, .int .i64 TV.visits, .int .i64 TV.points, .int .i64 TV.darts.lo, .int .i64 TV.darts.hi, .int .i64 TV.tried.lo, .int .i64 TV.tried.hi, .int .i64 TV.tons, .int .i64 TV.highs, .int .i64 TV.tops, .int .i64 TV.best])) (by kernel_rfl)
              (fun k hk => by
                simp only [Bool.or_eq_true, beq_iff_eq] at hk
                rcases hk with rfl | rfl <;> decide)
              (fun L L' u w' h hg => by first | (rw [h 26 (by rfl)]; exact hg) | exact hg) (fun L u a b h hx => h.ext hx) (rsW [(0, .agg #[.int .i64 TV.legs, .int .i64 TV.won, .int .i64 TV.visits, .int .i64 TV.points, .int .i64 TV.darts.lo, .int .i64 TV.darts.hi, .int .i64 TV.tried.lo, .int .i64 TV.tried.hi, .int .i64 TV.tons, .int .i64 TV.highs, .int .i64 TV.tops, .int .i64 TV.best])]) (fun k _ => rsW_ok _ k) (HTV.out.ext (Ext.refl wq).drew) ?_
            intro T hT hne2 u hu
            have e_0 : u 0 = .agg #[.int .i64 TV.legs, .int .i64 TV.won, .int .i64 TV.visits, .int .i64 TV.points, .int .i64 TV.darts.lo, .int .i64 TV.darts.hi, .int .i64 TV.tried.lo, .int .i64 TV.tried.hi, .int .i64 TV.tons, .int .i64 TV.highs, .int .i64 TV.tops, .int .i64 TV.best] := hu 0 rfl
            refine lx_loud (by rfl) (by kernel_rfl) ?_ (fun K hK => ?_)
            · intro L w4 hL hd hcl hC hs
              obtain ⟨y, rfl⟩ := hC
              have d26 := hcl.off hL 40 26 (by kernel_rfl)
              rw [d26] at hs
              have hs : Blk y.world k7 #[.int .i64 TV.legs, .int .i64 TV.won, .int .i64 TV.visits, .int .i64 TV.points, .int .i64 TV.darts.lo, .int .i64 TV.darts.hi, .int .i64 TV.tried.lo, .int .i64 TV.tried.hi, .int .i64 TV.tons, .int .i64 TV.highs, .int .i64 TV.tops, .int .i64 TV.best] := hs
              have r0 := hs.cell 0 (v := .int .i64 TV.legs) rfl
              have r1 := hs.cell 1 (v := .int .i64 TV.won) rfl
              have r2 := hs.cell 2 (v := .int .i64 TV.visits) rfl
              have r3 := hs.cell 3 (v := .int .i64 TV.points) rfl
              have r4 := hs.cell 4 (v := .int .i64 TV.darts.lo) rfl
              have r5 := hs.cell 5 (v := .int .i64 TV.darts.hi) rfl
              have r6 := hs.cell 6 (v := .int .i64 TV.tried.lo) rfl
              have r7 := hs.cell 7 (v := .int .i64 TV.tried.hi) rfl
              have r8 := hs.cell 8 (v := .int .i64 TV.tons) rfl
              have r9 := hs.cell 9 (v := .int .i64 TV.highs) rfl
              have r10 := hs.cell 10 (v := .int .i64 TV.tops) rfl
              have r11 := hs.cell 11 (v := .int .i64 TV.best) rfl
              have rl := hs.lt
              have HS := Lib.hid hs
              have D26 := Lib.hid d26
              have HLL := Lib.hid hL
              clear hs hd hcl hL d26
              go_wp2
              exact ⟨rfl, ⟨y, rfl⟩, by first | (rw [show upd L 0 26 = L 26 from rfl, D26.out]; exact HS.out) | exact HS.out⟩
            rw [e_0]
            go_simp
            with_reducible refine hK _ ?_
            clear hK K
            refine lx_next 25 (by rfl) (by decide) ?_
            dsimp only [List.take, List.drop]
            repeat (go_big_quiet_step (first | with_reducible refine Calls.lat hT (ref_Sum TV xe ⟨x, true⟩ _)))
            refine wpQuiet_nil ?_
            refine lx_loud (by rfl) (by kernel_rfl) ?_ (fun K hK => ?_)
            · intro L w4 hL hd hcl hC hs
              obtain ⟨y, rfl⟩ := hC
              rw [hL] at hs
              have hs : Blk y.world k7 #[.int .i64 TV.legs, .int .i64 TV.won, .int .i64 TV.visits, .int .i64 TV.points, .int .i64 TV.darts.lo, .int .i64 TV.darts.hi, .int .i64 TV.tried.lo, .int .i64 TV.tried.hi, .int .i64 TV.tons, .int .i64 TV.highs, .int .i64 TV.tops, .int .i64 TV.best] := hs
              have r0 := hs.cell 0 (v := .int .i64 TV.legs) rfl
              have r1 := hs.cell 1 (v := .int .i64 TV.won) rfl
              have r2 := hs.cell 2 (v := .int .i64 TV.visits) rfl
              have r3 := hs.cell 3 (v := .int .i64 TV.points) rfl
              have r4 := hs.cell 4 (v := .int .i64 TV.darts.lo) rfl
              have r5 := hs.cell 5 (v := .int .i64 TV.darts.hi) rfl
              have r6 := hs.cell 6 (v := .int .i64 TV.tried.lo) rfl
              have r7 := hs.cell 7 (v := .int .i64 TV.tried.hi) rfl
              have r8 := hs.cell 8 (v := .int .i64 TV.tons) rfl
              have r9 := hs.cell 9 (v := .int .i64 TV.highs) rfl
              have r10 := hs.cell 10 (v := .int .i64 TV.tops) rfl
              have r11 := hs.cell 11 (v := .int .i64 TV.best) rfl
              have rf0 := hs.frozen 0
              have rf1 := hs.frozen 1
              have rf2 := hs.frozen 2
              have rf3 := hs.frozen 3
              have rf4 := hs.frozen 4
              have rf5 := hs.frozen 5
              have rf6 := hs.frozen 6
              have rf7 := hs.frozen 7
              have rf8 := hs.frozen 8
              have rf9 := hs.frozen 9
              have rf10 := hs.frozen 10
              have rf11 := hs.frozen 11
              have rl := hs.lt
              have HS := Lib.hid hs
              have HLL := Lib.hid hL
              clear hs hd hcl hL
              go_wp2
              have hb0 : Blk _ k7 #[.int .i64 (sumS TV xe ⟨x, true⟩).legs, .int .i64 TV.won, .int .i64 TV.visits, .int .i64 TV.points, .int .i64 TV.darts.lo, .int .i64 TV.darts.hi, .int .i64 TV.tried.lo, .int .i64 TV.tried.hi, .int .i64 TV.tons, .int .i64 TV.highs, .int .i64 TV.tops, .int .i64 TV.best] := HS.out.set 0 (.int .i64 (sumS TV xe ⟨x, true⟩).legs)
              have hb1 : Blk _ k7 #[.int .i64 (sumS TV xe ⟨x, true⟩).legs, .int .i64 (sumS TV xe ⟨x, true⟩).won, .int .i64 TV.visits, .int .i64 TV.points, .int .i64 TV.darts.lo, .int .i64 TV.darts.hi, .int .i64 TV.tried.lo, .int .i64 TV.tried.hi, .int .i64 TV.tons, .int .i64 TV.highs, .int .i64 TV.tops, .int .i64 TV.best] := hb0.set 1 (.int .i64 (sumS TV xe ⟨x, true⟩).won)
              have hb2 : Blk _ k7 #[.int .i64 (sumS TV xe ⟨x, true⟩).legs, .int .i64 (sumS TV xe ⟨x, true⟩).won, .int .i64 (sumS TV xe ⟨x, true⟩).visits, .int .i64 TV.points, .int .i64 TV.darts.lo, .int .i64 TV.darts.hi, .int .i64 TV.tried.lo, .int .i64 TV.tried.hi, .int .i64 TV.tons, .int .i64 TV.highs, .int .i64 TV.tops, .int .i64 TV.best] := hb1.set 2 (.int .i64 (sumS TV xe ⟨x, true⟩).visits)
              have hb3 : Blk _ k7 #[.int .i64 (sumS TV xe ⟨x, true⟩).legs, .int .i64 (sumS TV xe ⟨x, true⟩).won, .int .i64 (sumS TV xe ⟨x, true⟩).visits, .int .i64 (sumS TV xe ⟨x, true⟩).points, .int .i64 TV.darts.lo, .int .i64 TV.darts.hi, .int .i64 TV.tried.lo, .int .i64 TV.tried.hi, .int .i64 TV.tons, .int .i64 TV.highs, .int .i64 TV.tops, .int .i64 TV.best] := hb2.set 3 (.int .i64 (sumS TV xe ⟨x, true⟩).points)
              have hb4 : Blk _ k7 #[.int .i64 (sumS TV xe ⟨x, true⟩).legs, .int .i64 (sumS TV xe ⟨x, true⟩).won, .int .i64 (sumS TV xe ⟨x, true⟩).visits, .int .i64 (sumS TV xe ⟨x, true⟩).points, .int .i64 (sumS TV xe ⟨x, true⟩).darts.lo, .int .i64 TV.darts.hi, .int .i64 TV.tried.lo, .int .i64 TV.tried.hi, .int .i64 TV.tons, .int .i64 TV.highs, .int .i64 TV.tops, .int .i64 TV.best] := hb3.set 4 (.int .i64 (sumS TV xe ⟨x, true⟩).darts.lo)
              have hb5 : Blk _ k7 #[.int .i64 (sumS TV xe ⟨x, true⟩).legs, .int .i64 (sumS TV xe ⟨x, true⟩).won, .int .i64 (sumS TV xe ⟨x, true⟩).visits, .int .i64 (sumS TV xe ⟨x, true⟩).points, .int .i64 (sumS TV xe ⟨x, true⟩).darts.lo, .int .i64 (sumS TV xe ⟨x, true⟩).darts.hi, .int .i64 TV.tried.lo, .int .i64 TV.tried.hi, .int .i64 TV.tons, .int .i64 TV.highs, .int .i64 TV.tops, .int .i64 TV.best] := hb4.set 5 (.int .i64 (sumS TV xe ⟨x, true⟩).darts.hi)
              have hb6 : Blk _ k7 #[.int .i64 (sumS TV xe ⟨x, true⟩).legs, .int .i64 (sumS TV xe ⟨x, true⟩).won, .int .i64 (sumS TV xe ⟨x, true⟩).visits, .int .i64 (sumS TV xe ⟨x, true⟩).points, .int .i64 (sumS TV xe ⟨x, true⟩).darts.lo, .int .i64 (sumS TV xe ⟨x, true⟩).darts.hi, .int .i64 (sumS TV xe ⟨x, true⟩).tried.lo, .int .i64 TV.tried.hi, .int .i64 TV.tons, .int .i64 TV.highs, .int .i64 TV.tops, .int .i64 TV.best] := hb5.set 6 (.int .i64 (sumS TV xe ⟨x, true⟩).tried.lo)
              have hb7 : Blk _ k7 #[.int .i64 (sumS TV xe ⟨x, true⟩).legs, .int .i64 (sumS TV xe ⟨x, true⟩).won, .int .i64 (sumS TV xe ⟨x, true⟩).visits, .int .i64 (sumS TV xe ⟨x, true⟩).points, .int .i64 (sumS TV xe ⟨x, true⟩).darts.lo, .int .i64 (sumS TV xe ⟨x, true⟩).darts.hi, .int .i64 (sumS TV xe ⟨x, true⟩).tried.lo, .int .i64 (sumS TV xe ⟨x, true⟩).tried.hi, .int .i64 TV.tons, .int .i64 TV.highs, .int .i64 TV.tops, .int .i64 TV.best] := hb6.set 7 (.int .i64 (sumS TV xe ⟨x, true⟩).tried.hi)
              have hb8 : Blk _ k7 #[.int .i64 (sumS TV xe ⟨x, true⟩).legs, .int .i64 (sumS TV xe ⟨x, true⟩).won, .int .i64 (sumS TV xe ⟨x, true⟩).visits, .int .i64 (sumS TV xe ⟨x, true⟩).points, .int .i64 (sumS TV xe ⟨x, true⟩).darts.lo, .int .i64 (sumS TV xe ⟨x, true⟩).darts.hi, .int .i64 (sumS TV xe ⟨x, true⟩).tried.lo, .int .i64 (sumS TV xe ⟨x, true⟩).tried.hi, .int .i64 (sumS TV xe ⟨x, true⟩).tons, .int .i64 TV.highs, .int .i64 TV.tops, .int .i64 TV.best] := hb7.set 8 (.int .i64 (sumS TV xe ⟨x, true⟩).tons)
              have hb9 : Blk _ k7 #[.int .i64 (sumS TV xe ⟨x, true⟩).legs, .int .i64 (sumS TV xe ⟨x, true⟩).won, .int .i64 (sumS TV xe ⟨x, true⟩).visits, .int .i64 (sumS TV xe ⟨x, true⟩).points, .int .i64 (sumS TV xe ⟨x, true⟩).darts.lo, .int .i64 (sumS TV xe ⟨x, true⟩).darts.hi, .int .i64 (sumS TV xe ⟨x, true⟩).tried.lo, .int .i64 (sumS TV xe ⟨x, true⟩).tried.hi, .int .i64 (sumS TV xe ⟨x, true⟩).tons, .int .i64 (sumS TV xe ⟨x, true⟩).highs, .int .i64 TV.tops, .int .i64 TV.best] := hb8.set 9 (.int .i64 (sumS TV xe ⟨x, true⟩).highs)
              have hb10 : Blk _ k7 #[.int .i64 (sumS TV xe ⟨x, true⟩).legs, .int .i64 (sumS TV xe ⟨x, true⟩).won, .int .i64 (sumS TV xe ⟨x, true⟩).visits, .int .i64 (sumS TV xe ⟨x, true⟩).points, .int .i64 (sumS TV xe ⟨x, true⟩).darts.lo, .int .i64 (sumS TV xe ⟨x, true⟩).darts.hi, .int .i64 (sumS TV xe ⟨x, true⟩).tried.lo, .int .i64 (sumS TV xe ⟨x, true⟩).tried.hi, .int .i64 (sumS TV xe ⟨x, true⟩).tons, .int .i64 (sumS TV xe ⟨x, true⟩).highs, .int .i64 (sumS TV xe ⟨x, true⟩).tops, .int .i64 TV.best] := hb9.set 10 (.int .i64 (sumS TV xe ⟨x, true⟩).tops)
              have hb11 : Blk _ k7 #[.int .i64 (sumS TV xe ⟨x, true⟩).legs, .int .i64 (sumS TV xe ⟨x, true⟩).won, .int .i64 (sumS TV xe ⟨x, true⟩).visits, .int .i64 (sumS TV xe ⟨x, true⟩).points, .int .i64 (sumS TV xe ⟨x, true⟩).darts.lo, .int .i64 (sumS TV xe ⟨x, true⟩).darts.hi, .int .i64 (sumS TV xe ⟨x, true⟩).tried.lo, .int .i64 (sumS TV xe ⟨x, true⟩).tried.hi, .int .i64 (sumS TV xe ⟨x, true⟩).tons, .int .i64 (sumS TV xe ⟨x, true⟩).highs, .int .i64 (sumS TV xe ⟨x, true⟩).tops, .int .i64 (sumS TV xe ⟨x, true⟩).best] := hb10.set 11 (.int .i64 (sumS TV xe ⟨x, true⟩).best)
              exact ⟨trivial, ⟨y.chgd (((((((((((((Chg.refl (· = k7) y.world).setCell (.inr rfl) (.int .i64 (sumS TV xe ⟨x, true⟩).legs)).setCell (.inr rfl) (.int .i64 (sumS TV xe ⟨x, true⟩).won)).setCell (.inr rfl) (.int .i64 (sumS TV xe ⟨x, true⟩).visits)).setCell (.inr rfl) (.int .i64 (sumS TV xe ⟨x, true⟩).points)).setCell (.inr rfl) (.int .i64 (sumS TV xe ⟨x, true⟩).darts.lo)).setCell (.inr rfl) (.int .i64 (sumS TV xe ⟨x, true⟩).darts.hi)).setCell (.inr rfl) (.int .i64 (sumS TV xe ⟨x, true⟩).tried.lo)).setCell (.inr rfl) (.int .i64 (sumS TV xe ⟨x, true⟩).tried.hi)).setCell (.inr rfl) (.int .i64 (sumS TV xe ⟨x, true⟩).tons)).setCell (.inr rfl) (.int .i64 (sumS TV xe ⟨x, true⟩).highs)).setCell (.inr rfl) (.int .i64 (sumS TV xe ⟨x, true⟩).tops)).setCell (.inr rfl) (.int .i64 (sumS TV xe ⟨x, true⟩).best)) (fun b hb => .inr fun _ => hb), rfl⟩, by first | (rw [show upd L 26 26 = true from rfl]; exact hb11) | exact hb0⟩
            go_simp
            with_reducible refine hK _ ?_
            clear hK K
            refine lx_nil ?_
            intro y hs
            have HTN : Hid (Blk y.world k7 #[.int .i64 (sumS TV xe ⟨x, true⟩).legs, .int .i64 (sumS TV xe ⟨x, true⟩).won, .int .i64 (sumS TV xe ⟨x, true⟩).visits, .int .i64 (sumS TV xe ⟨x, true⟩).points, .int .i64 (sumS TV xe ⟨x, true⟩).darts.lo, .int .i64 (sumS TV xe ⟨x, true⟩).darts.hi, .int .i64 (sumS TV xe ⟨x, true⟩).tried.lo, .int .i64 (sumS TV xe ⟨x, true⟩).tried.hi, .int .i64 (sumS TV xe ⟨x, true⟩).tons, .int .i64 (sumS TV xe ⟨x, true⟩).highs, .int .i64 (sumS TV xe ⟨x, true⟩).tops, .int .i64 (sumS TV xe ⟨x, true⟩).best]) := Lib.hid hs
            have HCw9 : Hid (Chg (· = k7) wq y.world) := Lib.hid (y.chg.mono (by rintro q - ⟨_, e⟩; exact e))
            clear hs hu hT hne2 e_0 q0 q1 q2 q3 q4 x0 x1 x2 x3 ql0 ql1 ql2
            generalize y.world = w9 at *
            clear y
            go_wp2
            go_roundw
            case rel => exact ⟨j + 1, by omega, by go_num, by rw [legT, if_pos hjm, HXD.out, HGA.out, HLT.out]; exact HTN.out, HCQ.out.trans HCw9.out⟩
            case measure => simp [intOf]; omega
          · have HGA : Hid ((gAt start scores true j).g = ⟨x, false⟩) := Lib.hid (by rw [HGW.out]; simp [hk1])
            have hk2 : ¬ (j : Int) = (XS.length : Int) - 1 := by omega
            have hk3 : ((j : Int) == (XS.length : Int) - 1) = false := by simpa using hk2
            clear hxs hk1
            go_upto_region 17 with fail
            refine wp_region_lat (by kernel_rfl) (fun b _ => b = k7) (fun k => (k == 0) || ((k == 26))) (RsIs [(0, .agg #[.int .i64 TV.legs, .int .i64 TV.won, .int .i64 TV.visits, .int .i64 TV.points, .int .i64 TV.darts.lo, .int .i64 TV.darts.hi, .int .i64 TV.tried.lo, .int .i64 TV.tried.hi, .int .i64 TV.tons, .int .i64 TV.highs, .int .i64 TV.tops, .int .i64 TV.best])]) (fun L _ W => Blk W k7 (bif L 26 then #[.int .i64 (sumS TV xe ⟨x, false⟩).legs, .int .i64 (sumS TV xe ⟨x, false⟩).won, .int .i64 (sumS TV xe ⟨x, false⟩).visits, .int .i64 (sumS TV xe ⟨x, false⟩).points, .int .i64 (sumS TV xe ⟨x, false⟩).darts.lo, .int .i64 (sumS TV xe ⟨x, false⟩).darts.hi, .int .i64 (sumS TV xe ⟨x, false⟩).tried.lo, .int .i64 (sumS TV xe ⟨x, false⟩).tried.hi, .int .i64 (sumS TV xe ⟨x, false⟩).tons, .int .i64 (sumS TV xe ⟨x, false⟩).highs, .int .i64 (sumS TV xe ⟨x, false⟩).tops, .int .i64 (sumS TV xe ⟨x, false⟩).best] else #[.int .i64 TV.legs, .int .i64 TV.won, .int .i64 TV.visits, .int .i64 TV.points, .int .i64 TV.darts.lo, .int .i64 TV.darts.hi, .int .i64 TV.tried.lo, .int .i64 TV.tried.hi, .int .i64 TV.tons, .int .i64 TV.highs, .int .i64 TV.tops, .int .i64 TV.best])) (by kernel_rfl)
              (fun k hk => by
                simp only [Bool.or_eq_true, beq_iff_eq] at hk
                rcases hk with rfl | rfl <;> decide)
              (fun L L' u w' h hg => by first | (rw [h 26 (by rfl)]; exact hg) | exact hg) (fun L u a b h hx => h.ext hx) (rsW [(0, .agg #[.int .i64 TV.legs, .int .i64 TV.won, .int .i64 TV.visits, .int .i64 TV.points, .int .i64 TV.darts.lo, .int .i64 TV.darts.hi, .int .i64 TV.tried.lo, .int .i64 TV.tried.hi, .int .i64 TV.tons, .int .i64 TV.highs, .int .i64 TV.tops, .int .i64 TV.best])]) (fun k _ => rsW_ok _ k) (HTV.out.ext (Ext.refl wq).drew) ?_
            intro T hT hne2 u hu
            have e_0 : u 0 = .agg #[.int .i64 TV.legs, .int .i64 TV.won, .int .i64 TV.visits, .int .i64 TV.points, .int .i64 TV.darts.lo, .int .i64 TV.darts.hi, .int .i64 TV.tried.lo, .int .i64 TV.tried.hi, .int .i64 TV.tons, .int .i64 TV.highs, .int .i64 TV.tops, .int .i64 TV.best] := hu 0 rfl
            refine lx_loud (by rfl) (by kernel_rfl) ?_ (fun K hK => ?_)
            · intro L w4 hL hd hcl hC hs
              obtain ⟨y, rfl⟩ := hC
              have d26 := hcl.off hL 40 26 (by kernel_rfl)
              rw [d26] at hs
              have hs : Blk y.world k7 #[.int .i64 TV.legs, .int .i64 TV.won, .int .i64 TV.visits, .int .i64 TV.points, .int .i64 TV.darts.lo, .int .i64 TV.darts.hi, .int .i64 TV.tried.lo, .int .i64 TV.tried.hi, .int .i64 TV.tons, .int .i64 TV.highs, .int .i64 TV.tops, .int .i64 TV.best] := hs
              have r0 := hs.cell 0 (v := .int .i64 TV.legs) rfl
              have r1 := hs.cell 1 (v := .int .i64 TV.won) rfl
              have r2 := hs.cell 2 (v := .int .i64 TV.visits) rfl
              have r3 := hs.cell 3 (v := .int .i64 TV.points) rfl
              have r4 := hs.cell 4 (v := .int .i64 TV.darts.lo) rfl
              have r5 := hs.cell 5 (v := .int .i64 TV.darts.hi) rfl
              have r6 := hs.cell 6 (v := .int .i64 TV.tried.lo) rfl
              have r7 := hs.cell 7 (v := .int .i64 TV.tried.hi) rfl
              have r8 := hs.cell 8 (v := .int .i64 TV.tons) rfl
              have r9 := hs.cell 9 (v := .int .i64 TV.highs) rfl
              have r10 := hs.cell 10 (v := .int .i64 TV.tops) rfl
              have r11 := hs.cell 11 (v := .int .i64 TV.best) rfl
              have rl := hs.lt
              have HS := Lib.hid hs
              have D26 := Lib.hid d26
              have HLL := Lib.hid hL
              clear hs hd hcl hL d26
              go_wp2
              exact ⟨rfl, ⟨y, rfl⟩, by first | (rw [show upd L 0 26 = L 26 from rfl, D26.out]; exact HS.out) | exact HS.out⟩
            rw [e_0]
            go_simp
            with_reducible refine hK _ ?_
            clear hK K
            refine lx_next 25 (by rfl) (by decide) ?_
            dsimp only [List.take, List.drop]
            repeat (go_big_quiet_step (first | with_reducible refine Calls.lat hT (ref_Sum TV xe ⟨x, false⟩ _)))
            refine wpQuiet_nil ?_
            refine lx_loud (by rfl) (by kernel_rfl) ?_ (fun K hK => ?_)
            · intro L w4 hL hd hcl hC hs
              obtain ⟨y, rfl⟩ := hC
              rw [hL] at hs
              have hs : Blk y.world k7 #[.int .i64 TV.legs, .int .i64 TV.won, .int .i64 TV.visits, .int .i64 TV.points, .int .i64 TV.darts.lo, .int .i64 TV.darts.hi, .int .i64 TV.tried.lo, .int .i64 TV.tried.hi, .int .i64 TV.tons, .int .i64 TV.highs, .int .i64 TV.tops, .int .i64 TV.best] := hs
              have r0 := hs.cell 0 (v := .int .i64 TV.legs) rfl
              have r1 := hs.cell 1 (v := .int .i64 TV.won) rfl
              have r2 := hs.cell 2 (v := .int .i64 TV.visits) rfl
              have r3 := hs.cell 3 (v := .int .i64 TV.points) rfl
              have r4 := hs.cell 4 (v := .int .i64 TV.darts.lo) rfl
              have r5 := hs.cell 5 (v := .int .i64 TV.darts.hi) rfl
              have r6 := hs.cell 6 (v := .int .i64 TV.tried.lo) rfl
              have r7 := hs.cell 7 (v := .int .i64 TV.tried.hi) rfl
              have r8 := hs.cell 8 (v := .int .i64 TV.tons) rfl
              have r9 := hs.cell 9 (v := .int .i64 TV.highs) rfl
              have r10 := hs.cell 10 (v := .int .i64 TV.tops) rfl
              have r11 := hs.cell 11 (v := .int .i64 TV.best) rfl
              have rf0 := hs.frozen 0
              have rf1 := hs.frozen 1
              have rf2 := hs.frozen 2
              have rf3 := hs.frozen 3
              have rf4 := hs.frozen 4
              have rf5 := hs.frozen 5
              have rf6 := hs.frozen 6
              have rf7 := hs.frozen 7
              have rf8 := hs.frozen 8
              have rf9 := hs.frozen 9
              have rf10 := hs.frozen 10
              have rf11 := hs.frozen 11
              have rl := hs.lt
              have HS := Lib.hid hs
              have HLL := Lib.hid hL
              clear hs hd hcl hL
              go_wp2
              have hb0 : Blk _ k7 #[.int .i64 (sumS TV xe ⟨x, false⟩).legs, .int .i64 TV.won, .int .i64 TV.visits, .int .i64 TV.points, .int .i64 TV.darts.lo, .int .i64 TV.darts.hi, .int .i64 TV.tried.lo, .int .i64 TV.tried.hi, .int .i64 TV.tons, .int .i64 TV.highs, .int .i64 TV.tops, .int .i64 TV.best] := HS.out.set 0 (.int .i64 (sumS TV xe ⟨x, false⟩).legs)
              have hb1 : Blk _ k7 #[.int .i64 (sumS TV xe ⟨x, false⟩).legs, .int .i64 (sumS TV xe ⟨x, false⟩).won, .int .i64 TV.visits, .int .i64 TV.points, .int .i64 TV.darts.lo, .int .i64 TV.darts.hi, .int .i64 TV.tried.lo, .int .i64 TV.tried.hi, .int .i64 TV.tons, .int .i64 TV.highs, .int .i64 TV.tops, .int .i64 TV.best] := hb0.set 1 (.int .i64 (sumS TV xe ⟨x, false⟩).won)
              have hb2 : Blk _ k7 #[.int .i64 (sumS TV xe ⟨x, false⟩).legs, .int .i64 (sumS TV xe ⟨x, false⟩).won, .int .i64 (sumS TV xe ⟨x, false⟩).visits, .int .i64 TV.points, .int .i64 TV.darts.lo, .int .i64 TV.darts.hi, .int .i64 TV.tried.lo, .int .i64 TV.tried.hi, .int .i64 TV.tons, .int .i64 TV.highs, .int .i64 TV.tops, .int .i64 TV.best] := hb1.set 2 (.int .i64 (sumS TV xe ⟨x, false⟩).visits)
              have hb3 : Blk _ k7 #[.int .i64 (sumS TV xe ⟨x, false⟩).legs, .int .i64 (sumS TV xe ⟨x, false⟩).won, .int .i64 (sumS TV xe ⟨x, false⟩).visits, .int .i64 (sumS TV xe ⟨x, false⟩).points, .int .i64 TV.darts.lo, .int .i64 TV.darts.hi, .int .i64 TV.tried.lo, .int .i64 TV.tried.hi, .int .i64 TV.tons, .int .i64 TV.highs, .int .i64 TV.tops, .int .i64 TV.best] := hb2.set 3 (.int .i64 (sumS TV xe ⟨x, false⟩).points)
              have hb4 : Blk _ k7 #[.int .i64 (sumS TV xe ⟨x, false⟩).legs, .int .i64 (sumS TV xe ⟨x, false⟩).won, .int .i64 (sumS TV xe ⟨x, false⟩).visits, .int .i64 (sumS TV xe ⟨x, false⟩).points, .int .i64 (sumS TV xe ⟨x, false⟩).darts.lo, .int .i64 TV.darts.hi, .int .i64 TV.tried.lo, .int .i64 TV.tried.hi, .int .i64 TV.tons, .int .i64 TV.highs, .int .i64 TV.tops, .int .i64 TV.best] := hb3.set 4 (.int .i64 (sumS TV xe ⟨x, false⟩).darts.lo)
              have hb5 : Blk _ k7 #[.int .i64 (sumS TV xe ⟨x, false⟩).legs, .int .i64 (sumS TV xe ⟨x, false⟩).won, .int .i64 (sumS TV xe ⟨x, false⟩).visits, .int .i64 (sumS TV xe ⟨x, false⟩).points, .int .i64 (sumS TV xe ⟨x, false⟩).darts.lo, .int .i64 (sumS TV xe ⟨x, false⟩).darts.hi, .int .i64 TV.tried.lo, .int .i64 TV.tried.hi, .int .i64 TV.tons, .int .i64 TV.highs, .int .i64 TV.tops, .int .i64 TV.best] := hb4.set 5 (.int .i64 (sumS TV xe ⟨x, false⟩).darts.hi)
              have hb6 : Blk _ k7 #[.int .i64 (sumS TV xe ⟨x, false⟩).legs, .int .i64 (sumS TV xe ⟨x, false⟩).won, .int .i64 (sumS TV xe ⟨x, false⟩).visits, .int .i64 (sumS TV xe ⟨x, false⟩).points, .int .i64 (sumS TV xe ⟨x, false⟩).darts.lo, .int .i64 (sumS TV xe ⟨x, false⟩).darts.hi, .int .i64 (sumS TV xe ⟨x, false⟩).tried.lo, .int .i64 TV.tried.hi, .int .i64 TV.tons, .int .i64 TV.highs, .int .i64 TV.tops, .int .i64 TV.best] := hb5.set 6 (.int .i64 (sumS TV xe ⟨x, false⟩).tried.lo)
              have hb7 : Blk _ k7 #[.int .i64 (sumS TV xe ⟨x, false⟩).legs, .int .i64 (sumS TV xe ⟨x, false⟩).won, .int .i64 (sumS TV xe ⟨x, false⟩).visits, .int .i64 (sumS TV xe ⟨x, false⟩).points, .int .i64 (sumS TV xe ⟨x, false⟩).darts.lo, .int .i64 (sumS TV xe ⟨x, false⟩).darts.hi, .int .i64 (sumS TV xe ⟨x, false⟩).tried.lo, .int .i64 (sumS TV xe ⟨x, false⟩).tried.hi, .int .i64 TV.tons, .int .i64 TV.highs, .int .i64 TV.tops, .int .i64 TV.best] := hb6.set 7 (.int .i64 (sumS TV xe ⟨x, false⟩).tried.hi)
              have hb8 : Blk _ k7 #[.int .i64 (sumS TV xe ⟨x, false⟩).legs, .int .i64 (sumS TV xe ⟨x, false⟩).won, .int .i64 (sumS TV xe ⟨x, false⟩).visits, .int .i64 (sumS TV xe ⟨x, false⟩).points, .int .i64 (sumS TV xe ⟨x, false⟩).darts.lo, .int .i64 (sumS TV xe ⟨x, false⟩).darts.hi, .int .i64 (sumS TV xe ⟨x, false⟩).tried.lo, .int .i64 (sumS TV xe ⟨x, false⟩).tried.hi, .int .i64 (sumS TV xe ⟨x, false⟩).tons, .int .i64 TV.highs, .int .i64 TV.tops, .int .i64 TV.best] := hb7.set 8 (.int .i64 (sumS TV xe ⟨x, false⟩).tons)
              have hb9 : Blk _ k7 #[.int .i64 (sumS TV xe ⟨x, false⟩).legs, .int .i64 (sumS TV xe ⟨x, false⟩).won, .int .i64 (sumS TV xe ⟨x, false⟩).visits, .int .i64 (sumS TV xe ⟨x, false⟩).points, .int .i64 (sumS TV xe ⟨x, false⟩).darts.lo, .int .i64 (sumS TV xe ⟨x, false⟩).darts.hi, .int .i64 (sumS TV xe ⟨x, false⟩).tried.lo, .int .i64 (sumS TV xe ⟨x, false⟩).tried.hi, .int .i64 (sumS TV xe ⟨x, false⟩).tons, .int .i64 (sumS TV xe ⟨x, false⟩).highs, .int .i64 TV.tops, .int .i64 TV.best] := hb8.set 9 (.int .i64 (sumS TV xe ⟨x, false⟩).highs)
              have hb10 : Blk _ k7 #[.int .i64 (sumS TV xe ⟨x, false⟩).legs, .int .i64 (sumS TV xe ⟨x, false⟩).won, .int .i64 (sumS TV xe ⟨x, false⟩).visits, .int .i64 (sumS TV xe ⟨x, false⟩).points, .int .i64 (sumS TV xe ⟨x, false⟩).darts.lo, .int .i64 (sumS TV xe ⟨x, false⟩).darts.hi, .int .i64 (sumS TV xe ⟨x, false⟩).tried.lo, .int .i64 (sumS TV xe ⟨x, false⟩).tried.hi, .int .i64 (sumS TV xe ⟨x, false⟩).tons, .int .i64 (sumS TV xe ⟨x, false⟩).highs, .int .i64 (sumS TV xe ⟨x, false⟩).tops, .int .i64 TV.best] := hb9.set 10 (.int .i64 (sumS TV xe ⟨x, false⟩).tops)
              have hb11 : Blk _ k7 #[.int .i64 (sumS TV xe ⟨x, false⟩).legs, .int .i64 (sumS TV xe ⟨x, false⟩).won, .int .i64 (sumS TV xe ⟨x, false⟩).visits, .int .i64 (sumS TV xe ⟨x, false⟩).points, .int .i64 (sumS TV xe ⟨x, false⟩).darts.lo, .int .i64 (sumS TV xe ⟨x, false⟩).darts.hi, .int .i64 (sumS TV xe ⟨x, false⟩).tried.lo, .int .i64 (sumS TV xe ⟨x, false⟩).tried.hi, .int .i64 (sumS TV xe ⟨x, false⟩).tons, .int .i64 (sumS TV xe ⟨x, false⟩).highs, .int .i64 (sumS TV xe ⟨x, false⟩).tops, .int .i64 (sumS TV xe ⟨x, false⟩).best] := hb10.set 11 (.int .i64 (sumS TV xe ⟨x, false⟩).best)
              exact ⟨trivial, ⟨y.chgd (((((((((((((Chg.refl (· = k7) y.world).setCell (.inr rfl) (.int .i64 (sumS TV xe ⟨x, false⟩).legs)).setCell (.inr rfl) (.int .i64 (sumS TV xe ⟨x, false⟩).won)).setCell (.inr rfl) (.int .i64 (sumS TV xe ⟨x, false⟩).visits)).setCell (.inr rfl) (.int .i64 (sumS TV xe ⟨x, false⟩).points)).setCell (.inr rfl) (.int .i64 (sumS TV xe ⟨x, false⟩).darts.lo)).setCell (.inr rfl) (.int .i64 (sumS TV xe ⟨x, false⟩).darts.hi)).setCell (.inr rfl) (.int .i64 (sumS TV xe ⟨x, false⟩).tried.lo)).setCell (.inr rfl) (.int .i64 (sumS TV xe ⟨x, false⟩).tried.hi)).setCell (.inr rfl) (.int .i64 (sumS TV xe ⟨x, false⟩).tons)).setCell (.inr rfl) (.int .i64 (sumS TV xe ⟨x, false⟩).highs)).setCell (.inr rfl) (.int .i64 (sumS TV xe ⟨x, false⟩).tops)).setCell (.inr rfl) (.int .i64 (sumS TV xe ⟨x, false⟩).best)) (fun b hb => .inr fun _ => hb), rfl⟩, by first | (rw [show upd L 26 26 = true from rfl]; exact hb11) | exact hb0⟩
            go_simp
            with_reducible refine hK _ ?_
            clear hK K
            refine lx_nil ?_
            intro y hs
            have HTN : Hid (Blk y.world k7 #[.int .i64 (sumS TV xe ⟨x, false⟩).legs, .int .i64 (sumS TV xe ⟨x, false⟩).won, .int .i64 (sumS TV xe ⟨x, false⟩).visits, .int .i64 (sumS TV xe ⟨x, false⟩).points, .int .i64 (sumS TV xe ⟨x, false⟩).darts.lo, .int .i64 (sumS TV xe ⟨x, false⟩).darts.hi, .int .i64 (sumS TV xe ⟨x, false⟩).tried.lo, .int .i64 (sumS TV xe ⟨x, false⟩).tried.hi, .int .i64 (sumS TV xe ⟨x, false⟩).tons, .int .i64 (sumS TV xe ⟨x, false⟩).highs, .int .i64 (sumS TV xe ⟨x, false⟩).tops, .int .i64 (sumS TV xe ⟨x, false⟩).best]) := Lib.hid hs
            have HCw9 : Hid (Chg (· = k7) wq y.world) := Lib.hid (y.chg.mono (by rintro q - ⟨_, e⟩; exact e))
            clear hs hu hT hne2 e_0 q0 q1 q2 q3 q4 x0 x1 x2 x3 ql0 ql1 ql2
            generalize y.world = w9 at *
            clear y
            go_wp2
            go_roundw
            case rel => exact ⟨j + 1, by omega, by go_num, by rw [legT, if_pos hjm, HXD.out, HGA.out, HLT.out]; exact HTN.out, HCQ.out.trans HCw9.out⟩
            case measure => simp [intOf]; omega
end Go.Proofs.Ytmopadnkjlodnaa
