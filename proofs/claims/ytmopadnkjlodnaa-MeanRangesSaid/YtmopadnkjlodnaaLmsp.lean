/-
  The statement MeanRanges, for every input (no condition).
-/
import Derived.Test.YtmopadnkjlodnaaMrb
import Derived.Test.YtmopadnkjlodnaaMra
import Derived.Test.YtmopadnkjlodnaaMtd
import Derived.Test.YtmopadnkjlodnaaMsh
import Derived.Test.YtmopadnkjlodnaaPlb
import Derived.Test.YtmopadnkjlodnaaApp
import Derived.ProofKit
import Derived.ChangeArms
import Derived.OpenShut
import Derived.Test.YtmopadnkjlodnaaRows
namespace Go.Proofs.Ytmopadnkjlodnaa
theorem spn_in (s : Spn) : spnB s = (inB s.lo 0 s.hi && decide (s.hi ≤ 1000000)) := by
  unfold spnB
  rw [ins_two]
  unfold inB
  rw [Bool.eq_iff_iff]
  simp only [Bool.and_eq_true, decide_eq_true_eq]
  omega
theorem avr_avg (t : Tot) : avrS t = avgS t := by
  unfold avrS avgS
  rw [insm_one, spn_in]
  have e : (inB t.points 0 1000000 = false ∨ inB t.darts.lo 0 t.darts.hi = false ∨ 1000000 < t.darts.hi) ↔ (inB t.points 0 1000000 = false ∨ (inB t.darts.lo 0 t.darts.hi && decide (t.darts.hi ≤ 1000000)) = false) := by
    rw [Bool.and_eq_false_iff, decide_eq_false_iff_not, Int.not_le]
  simp only [e]
end Go.Proofs.Ytmopadnkjlodnaa
namespace Go.Proofs.Ytmopadnkjlodnaa
open Go.RowKit Go.BigFrame
def rarS (t : Tot) : Ran × Int :=
  if inB t.tried.lo 0 t.tried.hi = false ∨ 1000000 < t.tried.hi ∨ inB t.won 0 t.tried.lo = false then (ran0, 2) else if t.tried.hi = 0 then (ran0, 7) else (⟨fracS t.won t.tried.hi, if 0 < t.tried.lo then fracS t.won t.tried.lo else ⟨0, 1⟩⟩, 0)
theorem two_chgs (S : Nat → Prop) (w : World) {b : Nat} (hb : S b) (i j : Nat) (x0 x1 : Value) : Chg S w ((w.setCell ⟨b, i, none⟩ x0).setCell ⟨b, j, none⟩ x1) := ((Chg.refl S w).setCell (.inr hb) x0).setCell (.inr hb) x1
set_option maxRecDepth 100000 in
set_option maxHeartbeats 4000000 in
theorem ref_Rate (t : Tot) (w : World) : Calls Try.prog 29 #[t.agg] w fun e w' => e = .returned (.tuple #[(rarS t).1.agg, .int .i64 (rarS t).2]) ∧ Ext w w' := by
  obtain ⟨av, hav⟩ : ∃ c, rarS t = c := ⟨_, rfl⟩
  rw [hav]
  have HAV := Lib.hid hav
  clear hav
  obtain ⟨legs, won, visits, points, ⟨dl, dh⟩, ⟨tl, th⟩, tons, highs, tops, best⟩ := t
  unfold Tot.agg
  simp only
  go_enter Try.func29, Try.ntmps29
  go_wp2_with fail
  refine (ref_In tl 0 th _).mono ?_
  rintro e w1 ⟨rfl, hx1⟩
  have hx := (((Ext.refl w).alloc _).alloc _).trans hx1
  have hb : Blk w1 w.heap.size #[.int .i64 legs, .int .i64 won, .int .i64 visits, .int .i64 points, .int .i64 dl, .int .i64 dh, .int .i64 tl, .int .i64 th, .int .i64 tons, .int .i64 highs, .int .i64 tops, .int .i64 best] := ((Blk.new _ _ _).alloc _).ext hx1
  have hr : Blk w1 (w.heap.size + 1) #[.int .i64 0, .int .i64 0, .int .i64 0, .int .i64 0] := (Blk.at _ (by simp)).ext hx1
  obtain ⟨KB, hKB⟩ : ∃ y, y = w.heap.size + 1 := ⟨_, rfl⟩
  rw [← hKB] at hr ⊢
  have HX := Lib.hid hx
  have HB := Lib.hid hb
  have HR := Lib.hid hr
  have HKB := Lib.hid (show w.heap.size ≤ KB ∧ KB ≠ w.heap.size by omega)
  clear hx hb hr hx1 hKB
  have r0 := HR.out.cell 0 (v := .int .i64 0) rfl
  have r1 := HR.out.cell 1 (v := .int .i64 0) rfl
  have r2 := HR.out.cell 2 (v := .int .i64 0) rfl
  have r3 := HR.out.cell 3 (v := .int .i64 0) rfl
  have rl := HR.out.lt
  have f0 := HR.out.frozen 0
  have f1 := HR.out.frozen 1
  have f2 := HR.out.frozen 2
  have f3 := HR.out.frozen 3
  cases h1 : inB tl 0 th
  · have e : av = (ran0, 2) := by rw [← HAV.out]; simp [rarS, h1]
    have HE := Lib.hid e
    clear e
    go_wp2
    have hq := four_set HR.out (.int .i64 0) (.int .i64 0) (.int .i64 0) (.int .i64 0)
    have hX' := Chg.to_ext HX.out (four_chg (· = KB) w1 rfl (.int .i64 0) (.int .i64 0) (.int .i64 0) (.int .i64 0)) (by rintro i rfl; exact HKB.out.1)
    obtain ⟨W, hW⟩ : ∃ y, y = ((((w1.setCell ⟨KB, 0, none⟩ (.int .i64 0)).setCell ⟨KB, 1, none⟩ (.int .i64 0)).setCell ⟨KB, 2, none⟩ (.int .i64 0)).setCell ⟨KB, 3, none⟩ (.int .i64 0)) := ⟨_, rfl⟩
    rw [← hW] at hq hX' ⊢
    have q0 := hq.cell 0 (v := .int .i64 0) rfl
    have q1 := hq.cell 1 (v := .int .i64 0) rfl
    have q2 := hq.cell 2 (v := .int .i64 0) rfl
    have q3 := hq.cell 3 (v := .int .i64 0) rfl
    refine bodyPost_ret (v := .tuple #[.agg #[.int .i64 0, .int .i64 0, .int .i64 0, .int .i64 0], .int .i64 2]) (by simp [results, Try.results29, go_sem, q0, q1, q2, q3]) rfl ⟨by rw [HE.out]; rfl, hX'⟩
  clear r0 r1 r2 r3 rl f0 f1 f2 f3
  have b1 := HB.out.cell 1 (v := .int .i64 won) rfl
  have b6 := HB.out.cell 6 (v := .int .i64 tl) rfl
  have b7 := HB.out.cell 7 (v := .int .i64 th) rfl
  have bl := HB.out.lt
  by_cases h4 : 1000000 < th
  · have r0 := HR.out.cell 0 (v := .int .i64 0) rfl
    have r1 := HR.out.cell 1 (v := .int .i64 0) rfl
    have r2 := HR.out.cell 2 (v := .int .i64 0) rfl
    have r3 := HR.out.cell 3 (v := .int .i64 0) rfl
    have rl := HR.out.lt
    have f0 := HR.out.frozen 0
    have f1 := HR.out.frozen 1
    have f2 := HR.out.frozen 2
    have f3 := HR.out.frozen 3
    have e : av = (ran0, 2) := by rw [← HAV.out]; simp [rarS, h4]
    have HE := Lib.hid e
    clear e
    go_wp2
    have hq := four_set HR.out (.int .i64 0) (.int .i64 0) (.int .i64 0) (.int .i64 0)
    have hX' := Chg.to_ext HX.out (four_chg (· = KB) w1 rfl (.int .i64 0) (.int .i64 0) (.int .i64 0) (.int .i64 0)) (by rintro i rfl; exact HKB.out.1)
    obtain ⟨W, hW⟩ : ∃ y, y = ((((w1.setCell ⟨KB, 0, none⟩ (.int .i64 0)).setCell ⟨KB, 1, none⟩ (.int .i64 0)).setCell ⟨KB, 2, none⟩ (.int .i64 0)).setCell ⟨KB, 3, none⟩ (.int .i64 0)) := ⟨_, rfl⟩
    rw [← hW] at hq hX' ⊢
    have q0 := hq.cell 0 (v := .int .i64 0) rfl
    have q1 := hq.cell 1 (v := .int .i64 0) rfl
    have q2 := hq.cell 2 (v := .int .i64 0) rfl
    have q3 := hq.cell 3 (v := .int .i64 0) rfl
    refine bodyPost_ret (v := .tuple #[.agg #[.int .i64 0, .int .i64 0, .int .i64 0, .int .i64 0], .int .i64 2]) (by simp [results, Try.results29, go_sem, q0, q1, q2, q3]) rfl ⟨by rw [HE.out]; rfl, hX'⟩
  go_wp2_with fail
  refine (ref_In won 0 tl _).mono ?_
  rintro e w2 ⟨rfl, hx2⟩
  have HX2 := Lib.hid (HX.out.trans hx2)
  have HB2 := Lib.hid (HB.out.ext hx2)
  have HR2 := Lib.hid (HR.out.ext hx2)
  clear b1 b6 b7 bl hx2
  have r0 := HR2.out.cell 0 (v := .int .i64 0) rfl
  have r1 := HR2.out.cell 1 (v := .int .i64 0) rfl
  have r2 := HR2.out.cell 2 (v := .int .i64 0) rfl
  have r3 := HR2.out.cell 3 (v := .int .i64 0) rfl
  have rl := HR2.out.lt
  have f0 := HR2.out.frozen 0
  have f1 := HR2.out.frozen 1
  have f2 := HR2.out.frozen 2
  have f3 := HR2.out.frozen 3
  have b1 := HB2.out.cell 1 (v := .int .i64 won) rfl
  have b6 := HB2.out.cell 6 (v := .int .i64 tl) rfl
  have b7 := HB2.out.cell 7 (v := .int .i64 th) rfl
  have bl := HB2.out.lt
  cases h2 : inB won 0 tl
  · have e : av = (ran0, 2) := by rw [← HAV.out]; simp [rarS, h2]
    have HE := Lib.hid e
    clear e
    go_wp2
    have hq := four_set HR2.out (.int .i64 0) (.int .i64 0) (.int .i64 0) (.int .i64 0)
    have hX' := Chg.to_ext HX2.out (four_chg (· = KB) w2 rfl (.int .i64 0) (.int .i64 0) (.int .i64 0) (.int .i64 0)) (by rintro i rfl; exact HKB.out.1)
    obtain ⟨W, hW⟩ : ∃ y, y = ((((w2.setCell ⟨KB, 0, none⟩ (.int .i64 0)).setCell ⟨KB, 1, none⟩ (.int .i64 0)).setCell ⟨KB, 2, none⟩ (.int .i64 0)).setCell ⟨KB, 3, none⟩ (.int .i64 0)) := ⟨_, rfl⟩
    rw [← hW] at hq hX' ⊢
    have q0 := hq.cell 0 (v := .int .i64 0) rfl
    have q1 := hq.cell 1 (v := .int .i64 0) rfl
    have q2 := hq.cell 2 (v := .int .i64 0) rfl
    have q3 := hq.cell 3 (v := .int .i64 0) rfl
    refine bodyPost_ret (v := .tuple #[.agg #[.int .i64 0, .int .i64 0, .int .i64 0, .int .i64 0], .int .i64 2]) (by simp [results, Try.results29, go_sem, q0, q1, q2, q3]) rfl ⟨by rw [HE.out]; rfl, hX'⟩
  by_cases h3 : th = 0
  · have e : av = (ran0, 7) := by subst h3; rw [← HAV.out]; simp [rarS, h1, h2]
    have HE := Lib.hid e
    subst h3
    clear e
    go_wp2
    have hq := four_set HR2.out (.int .i64 0) (.int .i64 0) (.int .i64 0) (.int .i64 0)
    have hX' := Chg.to_ext HX2.out (four_chg (· = KB) w2 rfl (.int .i64 0) (.int .i64 0) (.int .i64 0) (.int .i64 0)) (by rintro i rfl; exact HKB.out.1)
    obtain ⟨W, hW⟩ : ∃ y, y = ((((w2.setCell ⟨KB, 0, none⟩ (.int .i64 0)).setCell ⟨KB, 1, none⟩ (.int .i64 0)).setCell ⟨KB, 2, none⟩ (.int .i64 0)).setCell ⟨KB, 3, none⟩ (.int .i64 0)) := ⟨_, rfl⟩
    rw [← hW] at hq hX' ⊢
    have q0 := hq.cell 0 (v := .int .i64 0) rfl
    have q1 := hq.cell 1 (v := .int .i64 0) rfl
    have q2 := hq.cell 2 (v := .int .i64 0) rfl
    have q3 := hq.cell 3 (v := .int .i64 0) rfl
    refine bodyPost_ret (v := .tuple #[.agg #[.int .i64 0, .int .i64 0, .int .i64 0, .int .i64 0], .int .i64 7]) (by simp [results, Try.results29, go_sem, q0, q1, q2, q3]) rfl ⟨by rw [HE.out]; rfl, hX'⟩
  clear r0 r1 r2 r3 rl f0 f1 f2 f3
  have e : av = (⟨fracS won th, if 0 < tl then fracS won tl else ⟨0, 1⟩⟩, 0) := by rw [← HAV.out]; simp [rarS, h1, h2, h3, h4]
  have HE := Lib.hid e
  clear e
  have hp1 : 0 ≤ tl ∧ tl ≤ th := by simpa [inB] using h1
  have hp2 : 0 ≤ won ∧ won ≤ tl := by simpa [inB] using h2
  have hp3 : 0 < th ∧ th ≤ 1000000 := by omega
  have hp4 : 0 ≤ won ∧ won ≤ 3000000 := by omega
  have HP := Lib.hid (And.intro hp1 (And.intro hp3 hp4))
  clear hp1 hp2 hp3 hp4
  go_wp2_with fail
  refine (ref_Lowest won th _ HP.out.2.2 HP.out.2.1).mono ?_
  obtain ⟨⟨n1, d1⟩, hf1⟩ : ∃ y, fracS won th = y := ⟨_, rfl⟩
  rw [hf1]
  have HF1 := Lib.hid hf1
  clear hf1
  unfold Fra.agg
  simp only
  rintro e w3 ⟨rfl, hx3⟩
  have hs : Ext w3 (w3.alloc (.cells #[.int .i64 n1, .int .i64 d1, .int .i64 0, .int .i64 1] 59)) := (Ext.refl w3).alloc _
  have HX3 := Lib.hid ((HX2.out.trans hx3).trans hs)
  have HB3 := Lib.hid ((HB2.out.ext hx3).ext hs)
  have HR3 := Lib.hid ((HR2.out.ext hx3).ext hs)
  have HC3 : Hid (Blk (w3.alloc (.cells #[.int .i64 n1, .int .i64 d1, .int .i64 0, .int .i64 1] 59)) w3.heap.size #[.int .i64 n1, .int .i64 d1, .int .i64 0, .int .i64 1]) := Lib.hid (Blk.new _ _ _)
  have HL3 : Hid (KB ≠ w3.heap.size) := Lib.hid (Nat.ne_of_lt (HR2.out.ext hx3).lt)
  clear b1 b6 b7 bl
  have HKB1 := Lib.hid HKB.out.1
  generalize hka : w.heap.size = KA at *
  have HKA := Lib.hid hka
  clear hka
  have b1 := (HB3.out).cell 1 (v := .int .i64 won) rfl
  have b6 := (HB3.out).cell 6 (v := .int .i64 tl) rfl
  have b7 := (HB3.out).cell 7 (v := .int .i64 th) rfl
  have hx3' := Lib.hid hx3
  clear hs hx3
  by_cases h5 : 0 < tl
  · go_wp2_with fail
    refine (ref_Lowest won tl _ HP.out.2.2 ⟨h5, by have := HP.out; omega⟩).mono ?_
    obtain ⟨⟨n2, d2⟩, hf2⟩ : ∃ y, fracS won tl = y := ⟨_, rfl⟩
    rw [hf2]
    have HF2 := Lib.hid hf2
    clear hf2
    unfold Fra.agg
    simp only
    rintro e w5 ⟨rfl, hx4⟩
    have HX4 := Lib.hid (HX3.out.trans hx4)
    have HR4 := Lib.hid (HR3.out.ext hx4)
    have HC4 := Lib.hid (HC3.out.ext hx4)
    have HKC := Lib.hid (show w.heap.size ≤ w3.heap.size from Ext.size (HX2.out.trans hx3'.out))
    generalize w3.heap.size = KC at *
    have hn1 := HL3.out
    have hn2 := hn1.symm
    have c0 := HC4.out.cell 0 (v := .int .i64 n1) rfl
    have c1 := HC4.out.cell 1 (v := .int .i64 d1) rfl
    have c2 := HC4.out.cell 2 (v := .int .i64 0) rfl
    have c3 := HC4.out.cell 3 (v := .int .i64 1) rfl
    have g2 := HC4.out.frozen 2
    have g3 := HC4.out.frozen 3
    have cl := HC4.out.lt
    clear hx4 b1 b6 b7 HX3 HB3 HR3 HC3
    have r0 := HR4.out.cell 0 (v := .int .i64 0) rfl
    have r1 := HR4.out.cell 1 (v := .int .i64 0) rfl
    have r2 := HR4.out.cell 2 (v := .int .i64 0) rfl
    have r3 := HR4.out.cell 3 (v := .int .i64 0) rfl
    have rl := HR4.out.lt
    have f0 := HR4.out.frozen 0
    have f1 := HR4.out.frozen 1
    have f2 := HR4.out.frozen 2
    have f3 := HR4.out.frozen 3
    go_wp2_with fail
    have hq0 := HR4.out.chg (two_chgs (· = KC) w5 rfl 2 3 (.int .i64 n2) (.int .i64 d2)) hn1
    have hq := four_set hq0 (.int .i64 n1) (.int .i64 d1) (.int .i64 n2) (.int .i64 d2)
    have hX' := Chg.to_ext HX4.out ((((((two_chgs (fun k => k = KB ∨ k = KC) w5 (.inr rfl) 2 3 (.int .i64 n2) (.int .i64 d2)).setCell (p := ⟨KB, 0, none⟩) (.inr (.inl rfl)) (.int .i64 n1)).setCell (p := ⟨KB, 1, none⟩) (.inr (.inl rfl)) (.int .i64 d1)).setCell (p := ⟨KB, 2, none⟩) (.inr (.inl rfl)) (.int .i64 n2)).setCell (p := ⟨KB, 3, none⟩) (.inr (.inl rfl)) (.int .i64 d2)))
      (by rintro i (rfl | rfl); exact (HKA.out ▸ HKB.out.1); exact HKC.out)
    obtain ⟨W, hW⟩ : ∃ y, y = (((((w5.setCell ⟨KC, 2, none⟩ (.int .i64 n2)).setCell ⟨KC, 3, none⟩ (.int .i64 d2)).setCell ⟨KB, 0, none⟩ (.int .i64 n1)).setCell ⟨KB, 1, none⟩ (.int .i64 d1)).setCell ⟨KB, 2, none⟩ (.int .i64 n2)).setCell ⟨KB, 3, none⟩ (.int .i64 d2) := ⟨_, rfl⟩
    rw [← hW] at hq hX' ⊢
    have q0 := hq.cell 0 (v := .int .i64 n1) rfl
    have q1 := hq.cell 1 (v := .int .i64 d1) rfl
    have q2 := hq.cell 2 (v := .int .i64 n2) rfl
    have q3 := hq.cell 3 (v := .int .i64 d2) rfl
    refine bodyPost_ret (v := .tuple #[.agg #[.int .i64 n1, .int .i64 d1, .int .i64 n2, .int .i64 d2], .int .i64 0]) (by simp [results, Try.results29, go_sem, q0, q1, q2, q3]) rfl ⟨by rw [HE.out, if_pos h5, HF1.out, HF2.out]; rfl, hX'⟩
  · have e5 : tl = 0 := by have := HP.out; omega
    subst e5
    have c0 := HC3.out.cell 0 (v := .int .i64 n1) rfl
    have c1 := HC3.out.cell 1 (v := .int .i64 d1) rfl
    have c2 := HC3.out.cell 2 (v := .int .i64 0) rfl
    have c3 := HC3.out.cell 3 (v := .int .i64 1) rfl
    have r0 := HR3.out.cell 0 (v := .int .i64 0) rfl
    have r1 := HR3.out.cell 1 (v := .int .i64 0) rfl
    have r2 := HR3.out.cell 2 (v := .int .i64 0) rfl
    have r3 := HR3.out.cell 3 (v := .int .i64 0) rfl
    have f0 := HR3.out.frozen 0
    have f1 := HR3.out.frozen 1
    have f2 := HR3.out.frozen 2
    have f3 := HR3.out.frozen 3
    go_wp2_with fail
    obtain ⟨w4, hw4⟩ : ∃ y, y = w3.alloc (.cells #[.int .i64 n1, .int .i64 d1, .int .i64 0, .int .i64 1] 59) := ⟨_, rfl⟩
    rw [← hw4] at HX3 HR3 ⊢
    have hq := four_set HR3.out (.int .i64 n1) (.int .i64 d1) (.int .i64 0) (.int .i64 1)
    have hX' := Chg.to_ext HX3.out (four_chg (· = KB) w4 rfl (.int .i64 n1) (.int .i64 d1) (.int .i64 0) (.int .i64 1)) (by rintro i rfl; exact (HKA.out ▸ HKB.out.1))
    obtain ⟨W, hW⟩ : ∃ y, y = (((w4.setCell ⟨KB, 0, none⟩ (.int .i64 n1)).setCell ⟨KB, 1, none⟩ (.int .i64 d1)).setCell ⟨KB, 2, none⟩ (.int .i64 0)).setCell ⟨KB, 3, none⟩ (.int .i64 1) := ⟨_, rfl⟩
    rw [← hW] at hq hX' ⊢
    have q0 := hq.cell 0 (v := .int .i64 n1) rfl
    have q1 := hq.cell 1 (v := .int .i64 d1) rfl
    have q2 := hq.cell 2 (v := .int .i64 0) rfl
    have q3 := hq.cell 3 (v := .int .i64 1) rfl
    refine bodyPost_ret (v := .tuple #[.agg #[.int .i64 n1, .int .i64 d1, .int .i64 0, .int .i64 1], .int .i64 0]) (by simp [results, Try.results29, go_sem, q0, q1, q2, q3]) rfl ⟨by rw [HE.out, if_neg (Int.lt_irrefl 0), HF1.out]; rfl, hX'⟩
end Go.Proofs.Ytmopadnkjlodnaa
namespace Go.Proofs.Ytmopadnkjlodnaa
theorem rar_rat (t : Tot) : rarS t = ratS t := by
  unfold rarS ratS
  rw [insm_one, spn_in]
  have e : (inB t.tried.lo 0 t.tried.hi = false ∨ 1000000 < t.tried.hi ∨ inB t.won 0 t.tried.lo = false) ↔ ((inB t.tried.lo 0 t.tried.hi && decide (t.tried.hi ≤ 1000000)) = false ∨ inB t.won 0 t.tried.lo = false) := by
    rw [Bool.and_eq_false_iff, decide_eq_false_iff_not, Int.not_le, or_assoc]
  simp only [e]
  by_cases h : ((inB t.tried.lo 0 t.tried.hi && decide (t.tried.hi ≤ 1000000)) = false ∨ inB t.won 0 t.tried.lo = false)
  · rw [if_pos h, if_pos h]
  rw [if_neg h, if_neg h]
  by_cases h0 : t.tried.hi = 0
  · rw [if_pos h0, if_pos h0]
  rw [if_neg h0, if_neg h0]
  by_cases h1 : 0 < t.tried.lo
  · rw [if_pos h1, Int.max_eq_right (by omega)]
  · rw [not_or, Bool.not_eq_false, Bool.not_eq_false] at h
    obtain ⟨h2, h3⟩ := h
    simp only [inB, Bool.and_eq_true, decide_eq_true_eq] at h2 h3
    have e1 : t.tried.lo = 0 := by omega
    have e2 : t.won = 0 := by omega
    rw [if_neg h1, e1, e2]
    rfl
end Go.Proofs.Ytmopadnkjlodnaa
namespace Go.Proofs.Ytmopadnkjlodnaa
def bedsK : List Int := [101, 120, 201, 220, 320]
def legK1 : Leg := ⟨101, 0, 1, bedsK, [61, 0, 40], true⟩
def legK2 : Leg := ⟨101, 0, 1, bedsK, [61, 41], true⟩
theorem known_v : vstF legK1 = ([⟨3, 3, 0, 1, true⟩, ⟨1, 3, 1, 3, true⟩, ⟨1, 3, 1, 3, true⟩], 0, 0) := by kernel_rfl
theorem known_w : vstF legK2 = ([], 1, 7) := by kernel_rfl
def totK : Tot := ⟨1, 1, 3, 101, ⟨5, 9⟩, ⟨2, 7⟩, 0, 0, 0, 40⟩
theorem known_t : ofS 100 [legK1] = (totK, 0, 0) := by kernel_rfl
theorem known_a : avgS totK = (⟨⟨101, 3⟩, ⟨303, 5⟩⟩, 0) := by kernel_rfl
theorem known_r : ratS totK = (⟨⟨1, 7⟩, ⟨1, 2⟩⟩, 0) := by kernel_rfl
theorem known_s : shwS legK1 1 = ([[0, 101, 320], [320], [220]], 0, 0) := by kernel_rfl
theorem known_x : exaF 101 0 1 bedsK [[320, 101, 0], [320], [0, 220]] = .inl ⟨⟨1, 1, 3, 101, ⟨6, 6⟩, ⟨4, 4⟩, 0, 0, 0, 40⟩, 0, true, [61, 0, 40], true⟩ := by kernel_rfl
theorem known_b : betR ⟨⟨20, 1⟩, ⟨30, 1⟩⟩ ⟨⟨10, 1⟩, ⟨19, 1⟩⟩ = .tuple #[.bool true, .bool true, .int .i64 0] := by kernel_rfl
end Go.Proofs.Ytmopadnkjlodnaa
namespace Go.Proofs.Ytmopadnkjlodnaa
open Go.RowKit Go.BigFrame
attribute [local go_sem] Later.cell Later.frozen
theorem rd_blk {w : World} {k : Nat} {xs : List Int} {cs : Array Value} (hb : Blk w k cs) (hc : cs.toList = xs.map (Value.int .i64)) (hl : xs.length ≤ 1000) : RdI S0 w (.slice (some ⟨k, 0, none⟩) xs.length xs.length) xs := by
  obtain ⟨t, ht⟩ := hb
  refine .inr ⟨k, 0, xs.length, cs, t, (0, 0), rfl, Nat.le_refl _, by unfold maxLen; omega, id, ht, fun i hi => ?_⟩
  have : cs.toList[i]? = (xs.map (Value.int .i64))[i]? := by rw [hc]
  rw [Nat.zero_add, ← Array.getElem?_toList, this]
  simp [hi]
theorem RdI.chgB {S : Nat → Prop} {A B : World} {k o n c : Nat} {xs : List Int} (h : RdI S0 A (.slice (some ⟨k, o, none⟩) n c) xs) (hc : Chg S A B) (hb : ¬ S k) : RdI S0 B (.slice (some ⟨k, o, none⟩) n c) xs := by
  rcases h with ⟨h, -⟩ | ⟨b, o', c', cs, t, f, h1, h2, h3, h4, h5, h6⟩
  · cases h
  · cases h1
    exact .inr ⟨k, o, c, cs, t, f, rfl, h2, h3, h4, hc.heap h5 hb, h6⟩
theorem law_laws (w : World) : Calls Try.prog 45 #[] w fun e w' => e = .returned (.agg #[.int .i64 101, .int .i64 0, .int .i64 1]) ∧ Ext w w' := by
  go_enter Try.func45, Try.ntmps45
  go_wp2
  refine bodyPost_ret (v := .agg #[.int .i64 101, .int .i64 0, .int .i64 1]) (by simp [results, Try.results45, go_sem]) rfl ⟨rfl, (Ext.refl w).alloc _⟩
theorem law_beds (w : World) : Calls Try.prog 46 #[] w fun e w' => ∃ k, e = .returned (.slice (some ⟨k, 0, none⟩) 5 5) ∧ w.heap.size ≤ k ∧ RdI S0 w' (.slice (some ⟨k, 0, none⟩) 5 5) bedsK ∧ Ext w w' := by
  go_enter Try.func46, Try.ntmps46
  go_wp2
  refine bodyPost_ret (v := .slice (some ⟨w.heap.size, 0, none⟩) 5 5) (by simp [results, Try.results46, go_sem]) rfl ⟨_, rfl, Nat.le_refl _, rd_blk (xs := bedsK) (Blk.new w _ _) rfl (by decide), (Ext.refl w).alloc _⟩
set_option maxHeartbeats 4000000 in
theorem law_leg (won : Bool) (sa : Option Addr) (sn sc : Nat) (w : World) : Calls Try.prog 44 #[.bool won, .slice sa sn sc] w fun e w' => ∃ k, e = .returned (.agg #[.int .i64 101, .int .i64 0, .int .i64 1, .slice (some ⟨k, 0, none⟩) 5 5, .slice sa sn sc, .bool won]) ∧ RdI S0 w' (.slice (some ⟨k, 0, none⟩) 5 5) bedsK ∧ Ext w w' := by
  go_enter Try.func44, Try.ntmps44
  go_upto_region 1 with fail
  obtain ⟨w1, hw1⟩ : ∃ y, y = w.alloc (.cells #[.int .i64 0, .int .i64 0, .int .i64 0, .slice none 0 0, .slice none 0 0, .bool false] 28) := ⟨_, rfl⟩
  rw [← hw1]
  have HX1 : Hid (Ext w w1) := Lib.hid (by rw [hw1]; exact (Ext.refl w).alloc _)
  have HB1 : Hid (Blk w1 w.heap.size #[.int .i64 0, .int .i64 0, .int .i64 0, .slice none 0 0, .slice none 0 0, .bool false]) := Lib.hid (by rw [hw1]; exact Blk.new _ _ _)
  clear hw1
  go_wp2_with fail
  refine (law_laws w1).mono ?_
  rintro e w2 ⟨rfl, hx2⟩
  have HX2 := Lib.hid hx2
  clear hx2
  go_wp2_with fail
  refine (law_beds w2).mono ?_
  rintro e w3 ⟨k, rfl, hkn, hk, hx3⟩
  have HKN : Hid (¬ k = w.heap.size) := Lib.hid (by have h1 := HB1.out.lt; have h2 := HX2.out.size; omega)
  have HK := Lib.hid hk
  have HX3 := Lib.hid (HX2.out.trans hx3)
  have HB3 := Lib.hid (HB1.out.ext HX3.out)
  clear hk hx3 hkn
  have r0 := HB3.out.cell 0 (v := .int .i64 0) rfl
  have r1 := HB3.out.cell 1 (v := .int .i64 0) rfl
  have r2 := HB3.out.cell 2 (v := .int .i64 0) rfl
  have r3 := HB3.out.cell 3 (v := .slice none 0 0) rfl
  have r4 := HB3.out.cell 4 (v := .slice none 0 0) rfl
  have r5 := HB3.out.cell 5 (v := .bool false) rfl
  have rl := HB3.out.lt
  have f0 := HB3.out.frozen 0
  have f1 := HB3.out.frozen 1
  have f2 := HB3.out.frozen 2
  have f3 := HB3.out.frozen 3
  have f4 := HB3.out.frozen 4
  have f5 := HB3.out.frozen 5
  go_wp2
  have hq := six_set (b := w.heap.size) HB3.out (.int .i64 101) (.int .i64 0) (.int .i64 1) (.slice (some ⟨k, 0, none⟩) 5 5) (.slice sa sn sc) (.bool won)
  have hc := six_chg (· = w.heap.size) w3 (b := w.heap.size) rfl (.int .i64 101) (.int .i64 0) (.int .i64 1) (.slice (some ⟨k, 0, none⟩) 5 5) (.slice sa sn sc) (.bool won)
  generalize World.setCell _ _ _ = W at hq hc ⊢
  have q0 := hq.cell 0 (v := .int .i64 101) rfl
  have q1 := hq.cell 1 (v := .int .i64 0) rfl
  have q2 := hq.cell 2 (v := .int .i64 1) rfl
  have q3 := hq.cell 3 (v := .slice (some ⟨k, 0, none⟩) 5 5) rfl
  have q4 := hq.cell 4 (v := .slice sa sn sc) rfl
  have q5 := hq.cell 5 (v := .bool won) rfl
  have hkk := HK.out.chgB hc HKN.out
  refine bodyPost_ret (v := .agg #[.int .i64 101, .int .i64 0, .int .i64 1, .slice (some ⟨k, 0, none⟩) 5 5, .slice sa sn sc, .bool won]) (by simp [results, Try.results44, go_sem, q0, q1, q2, q3, q4, q5]) rfl ⟨k, rfl, hkk, Chg.to_ext (HX1.out.trans HX3.out) hc (by rintro i rfl; exact Nat.le_refl _)⟩
end Go.Proofs.Ytmopadnkjlodnaa
namespace Go.Proofs.Ytmopadnkjlodnaa
open Go.RowKit Go.BigFrame
theorem i64_all (l : List Int) (h : l.all (fun x => decide (-9223372036854775808 ≤ x) && decide (x ≤ 9223372036854775807)) = true) : ∀ x ∈ l, I64 x := by
  intro x hx
  have := List.all_eq_true.1 h x hx
  rw [Bool.and_eq_true, decide_eq_true_eq, decide_eq_true_eq] at this
  exact this
theorem legR_K1 {w : World} {k j : Nat} (hb : RdI S0 w (.slice (some ⟨k, 0, none⟩) 5 5) bedsK) (hs : RdI S0 w (.slice (some ⟨j, 0, none⟩) 3 3) [61, 0, 40]) : LegR legK1 (some ⟨k, 0, none⟩) (some ⟨j, 0, none⟩) 5 3 w :=
  ⟨hb, hs, i64_all _ rfl, i64_all _ rfl, ⟨by decide, by decide⟩⟩
theorem call_v (k j : Nat) (w : World) (hb : RdI S0 w (.slice (some ⟨k, 0, none⟩) 5 5) bedsK) (hs : RdI S0 w (.slice (some ⟨j, 0, none⟩) 3 3) [61, 0, 40]) :
    Calls Try.prog 17 #[.agg #[.int .i64 101, .int .i64 0, .int .i64 1, .slice (some ⟨k, 0, none⟩) 5 5, .slice (some ⟨j, 0, none⟩) 3 3, .bool true]] w fun e w' => ∃ g c, e = .returned (.tuple #[.slice (some ⟨g, 0, none⟩) 3 c, .int .i64 0, .int .i64 0]) ∧ (w'.cell? ⟨g, 4, none⟩ = some (.int .i64 1) ∧ w'.cell? ⟨g, 5, none⟩ = some (.int .i64 3) ∧ w'.cell? ⟨g, 3, none⟩ = some (.int .i64 1)) ∧ Ext w w' := by
  refine (mean_Visits legK1 (some ⟨k, 0, none⟩) (some ⟨j, 0, none⟩) 5 3 w (legR_K1 hb hs)).mono ?_
  rintro e w' ⟨v, rfl, hv, hx⟩
  rw [known_v] at hv ⊢
  obtain ⟨g, c, rfl, -, -, h0⟩ := hv.at 0 (by decide)
  obtain ⟨g', c', e1, -, -, h1⟩ := hv.at 1 (by decide)
  cases e1
  exact ⟨g, c, rfl, ⟨h1 0 _ rfl, h1 1 _ rfl, h0 3 _ rfl⟩, hx⟩
theorem call_w (k j : Nat) (w : World) (hb : RdI S0 w (.slice (some ⟨k, 0, none⟩) 5 5) bedsK) (hs : RdI S0 w (.slice (some ⟨j, 0, none⟩) 2 2) [61, 41]) :
    Calls Try.prog 17 #[.agg #[.int .i64 101, .int .i64 0, .int .i64 1, .slice (some ⟨k, 0, none⟩) 5 5, .slice (some ⟨j, 0, none⟩) 2 2, .bool true]] w fun e w' => ∃ a c, e = .returned (.tuple #[.slice a 0 c, .int .i64 1, .int .i64 7]) ∧ Ext w w' := by
  refine (mean_Visits legK2 (some ⟨k, 0, none⟩) (some ⟨j, 0, none⟩) 5 2 w ⟨hb, hs, i64_all _ rfl, i64_all _ rfl, ⟨by decide, by decide⟩⟩).mono ?_
  rintro e w' ⟨v, rfl, hv, hx⟩
  rw [known_w] at hv ⊢
  obtain ⟨a, c, rfl⟩ := hv.shape
  exact ⟨a, c, rfl, hx⟩
theorem call_t (k j m : Nat) (w : World) (hm : Blk w m #[.int .i64 101, .int .i64 0, .int .i64 1, .slice (some ⟨k, 0, none⟩) 5 5, .slice (some ⟨j, 0, none⟩) 3 3, .bool true]) (hb : RdI S0 w (.slice (some ⟨k, 0, none⟩) 5 5) bedsK) (hs : RdI S0 w (.slice (some ⟨j, 0, none⟩) 3 3) [61, 0, 40]) :
    Calls Try.prog 39 #[.slice (some ⟨m, 0, none⟩) 1 1] w fun e w' => e = .returned (.tuple #[.agg #[.int .i64 1, .int .i64 1, .int .i64 3, .int .i64 101, .int .i64 5, .int .i64 9, .int .i64 2, .int .i64 7, .int .i64 0, .int .i64 0, .int .i64 0, .int .i64 40], .int .i64 0, .int .i64 0]) ∧ Ext w w' := by
  have h := mean_Totals [legK1] (some ⟨m, 0, none⟩) 1 w (fun i hi => by
    match i, hi with
    | 0, _ =>
      refine ⟨m, 0, some ⟨k, 0, none⟩, some ⟨j, 0, none⟩, 5, 3, rfl, fun jj u hu => ?_, legR_K1 hb hs⟩
      rw [Nat.zero_mul, Nat.zero_add]
      exact hm.cell jj (by rw [← Array.getElem?_toList]; exact hu)) (by decide)
  rw [known_t] at h
  exact h
theorem call_a (w : World) : Calls Try.prog 26 #[.agg #[.int .i64 1, .int .i64 1, .int .i64 3, .int .i64 101, .int .i64 5, .int .i64 9, .int .i64 2, .int .i64 7, .int .i64 0, .int .i64 0, .int .i64 0, .int .i64 40]] w fun e w' => e = .returned (.tuple #[.agg #[.int .i64 101, .int .i64 3, .int .i64 303, .int .i64 5], .int .i64 0]) ∧ Ext w w' := by
  have h := mean_Average totK w
  rw [known_a] at h
  exact h
theorem call_r (w : World) : Calls Try.prog 27 #[.agg #[.int .i64 1, .int .i64 1, .int .i64 3, .int .i64 101, .int .i64 5, .int .i64 9, .int .i64 2, .int .i64 7, .int .i64 0, .int .i64 0, .int .i64 0, .int .i64 40]] w fun e w' => e = .returned (.tuple #[.agg #[.int .i64 1, .int .i64 7, .int .i64 1, .int .i64 2], .int .i64 0]) ∧ Ext w w' := by
  have h := mean_Rate totK w
  rw [known_r] at h
  exact h
theorem ways_at {w : World} {base : Nat} {v : Value} {ws : List (List Int)} (h : WaysAt w base v ws) (i : Nat) (hi : i < ws.length) (h0 : 0 < ws[i].length) : ∃ g c ag ac, v = .slice (some ⟨g, 0, none⟩) ws.length c ∧ w.cell? ⟨g, i, none⟩ = some (.slice (some ⟨ag, 0, none⟩) ws[i].length ac) ∧ ∀ j (hj : j < ws[i].length), w.cell? ⟨ag, j, none⟩ = some (.int .i64 ws[i][j]) := by
  obtain ⟨vals, h1, h2, h3⟩ := h
  obtain ⟨a, c, hv, ho⟩ := h3 i hi
  have hc := fun g (hg : v.ownBlock = some g) => World.ownsRow.cells (w := w) (g := g) h1 hg
  have hc2 := fun g (hg : (Value.slice a ws[i].length c).ownBlock = some g) => World.ownsRow.cells (w := w) (g := g) ho hg
  obtain ⟨-, ⟨e, h4⟩ | ⟨g, cap, cur, e, -⟩⟩ := h1
  · omega
  · obtain ⟨-, ⟨e2, h5⟩ | ⟨ag, acap, acur, e2, -⟩⟩ := ho
    · omega
    · refine ⟨g, cap, ag, acap, e, ?_, fun j hj => ?_⟩
      · have := hc g (by rw [e]; rfl) i _ hv
        rw [addr_add, Nat.zero_add] at this
        rw [e2] at this
        exact this
      · have := hc2 ag (by rw [e2]; rfl) j (.int .i64 ws[i][j]) (by simp [hj])
        rw [addr_add, Nat.zero_add] at this
        exact this
theorem call_s (k j : Nat) (w : World) (hb : RdI S0 w (.slice (some ⟨k, 0, none⟩) 5 5) bedsK) (hs : RdI S0 w (.slice (some ⟨j, 0, none⟩) 3 3) [61, 0, 40]) :
    Calls Try.prog 22 #[.agg #[.int .i64 101, .int .i64 0, .int .i64 1, .slice (some ⟨k, 0, none⟩) 5 5, .slice (some ⟨j, 0, none⟩) 3 3, .bool true], .int .i64 1] w fun e w' => ∃ g c a0 c0 a1 c1, e = .returned (.tuple #[.slice (some ⟨g, 0, none⟩) 3 c, .int .i64 0, .int .i64 0]) ∧ (w'.cell? ⟨g, 0, none⟩ = some (.slice (some ⟨a0, 0, none⟩) 3 c0) ∧ w'.cell? ⟨g, 1, none⟩ = some (.slice (some ⟨a1, 0, none⟩) 1 c1) ∧ w'.cell? ⟨a0, 1, none⟩ = some (.int .i64 101) ∧ w'.cell? ⟨a0, 2, none⟩ = some (.int .i64 320) ∧ w'.cell? ⟨a1, 0, none⟩ = some (.int .i64 320)) ∧ Ext w w' := by
  refine (mean_Show legK1 1 (some ⟨k, 0, none⟩) (some ⟨j, 0, none⟩) 5 3 w (legR_K1 hb hs)).mono ?_
  rintro e w' ⟨v, rfl, hv, hx⟩
  rw [known_s] at hv ⊢
  obtain ⟨g, c, a0, c0, rfl, h1, h2⟩ := ways_at hv 0 (by decide) (by decide)
  obtain ⟨g', c', a1, c1, e1, h3, h4⟩ := ways_at hv 1 (by decide) (by decide)
  cases e1
  exact ⟨g, c, a0, c0, a1, c1, rfl, ⟨h1, h3, h2 1 (by decide), h2 2 (by decide), h4 0 (by decide)⟩, hx⟩
theorem call_x (k a b c m : Nat) (w : World) (hk : RdI S0 w (.slice (some ⟨k, 0, none⟩) 5 5) bedsK) (ha : Blk w a #[.int .i64 320, .int .i64 101, .int .i64 0]) (hb : Blk w b #[.int .i64 320]) (hc : Blk w c #[.int .i64 0, .int .i64 220]) (hm : Blk w m #[.slice (some ⟨a, 0, none⟩) 3 3, .slice (some ⟨b, 0, none⟩) 1 1, .slice (some ⟨c, 0, none⟩) 2 2]) :
    Calls Try.prog 30 #[.agg #[.int .i64 101, .int .i64 0, .int .i64 1], .slice (some ⟨k, 0, none⟩) 5 5, .slice (some ⟨m, 0, none⟩) 3 3] w fun e w' => ∃ la lc g sc, e = .returned (.tuple #[.agg #[.int .i64 1, .int .i64 1, .int .i64 3, .int .i64 101, .int .i64 6, .int .i64 6, .int .i64 4, .int .i64 4, .int .i64 0, .int .i64 0, .int .i64 0, .int .i64 40], .agg #[.int .i64 101, .int .i64 0, .int .i64 1, .slice la 5 lc, .slice (some ⟨g, 0, none⟩) 3 sc, .bool true], .int .i64 0, .int .i64 0]) ∧ w'.cell? ⟨g, 0, none⟩ = some (.int .i64 61) ∧ Ext w w' := by
  refine (mean_Exact 101 0 1 bedsK (some ⟨k, 0, none⟩) 5 [[320, 101, 0], [320], [0, 220]] (some ⟨m, 0, none⟩) 3 w ⟨by decide, by decide⟩ hk (i64_all _ rfl) (fun i hi => ?_) (by decide)).mono ?_
  · match i, hi with
    | 0, _ => exact ⟨m, 0, some ⟨a, 0, none⟩, 3, rfl, hm.cell 0 rfl, (rd_cells (rd_blk (xs := [320, 101, 0]) ha rfl (by decide))).2, ⟨Nat.le_refl _, by show (_ : Nat) ≤ _; decide⟩, i64_all _ rfl, (show ([320, 101, 0] : List Int).length ≤ 1000 by decide)⟩
    | 1, _ => exact ⟨m, 0, some ⟨b, 0, none⟩, 1, rfl, hm.cell 1 rfl, (rd_cells (rd_blk (xs := [320]) hb rfl (by decide))).2, ⟨Nat.le_refl _, by show (_ : Nat) ≤ _; decide⟩, i64_all _ rfl, (show ([320] : List Int).length ≤ 1000 by decide)⟩
    | 2, _ => exact ⟨m, 0, some ⟨c, 0, none⟩, 2, rfl, hm.cell 2 rfl, (rd_cells (rd_blk (xs := [0, 220]) hc rfl (by decide))).2, ⟨Nat.le_refl _, by show (_ : Nat) ≤ _; decide⟩, i64_all _ rfl, (show ([0, 220] : List Int).length ≤ 1000 by decide)⟩
  · rintro e w' ⟨he, hx⟩
    rw [known_x] at he
    obtain ⟨la, lc, sa, sc, rfl, -, ho⟩ := he
    have hcs := fun g (hg : (Value.slice sa 3 sc).ownBlock = some g) => World.ownsRow.cells (w := w') (g := g) ho hg
    obtain ⟨-, ⟨e1, h2⟩ | ⟨g, cap, cur, e1, -⟩⟩ := ho
    · cases h2
    · cases e1
      have := hcs g rfl 0 (.int .i64 61) rfl
      rw [addr_add] at this
      exact ⟨la, lc, g, sc, rfl, this, hx⟩
theorem call_b (w : World) : Calls Try.prog 32 #[.agg #[.int .i64 20, .int .i64 1, .int .i64 30, .int .i64 1], .agg #[.int .i64 10, .int .i64 1, .int .i64 19, .int .i64 1]] w fun e w' => e = .returned (.tuple #[.bool true, .bool true, .int .i64 0]) ∧ Ext w w' := by
  have h := mean_Better ⟨⟨20, 1⟩, ⟨30, 1⟩⟩ ⟨⟨10, 1⟩, ⟨19, 1⟩⟩ w
  rw [known_b] at h
  exact h
end Go.Proofs.Ytmopadnkjlodnaa
namespace Go.Proofs.Ytmopadnkjlodnaa
open Go.RowKit Go.BigFrame
/-- Cells that keep their values. -/
def HasL (w : World) (L : List (Addr × Value)) : Prop := ∀ p ∈ L, w.cell? p.1 = some p.2
theorem HasL.nil (w : World) : HasL w [] := fun _ h => by cases h
theorem HasL.cons {w : World} {a : Addr} {v : Value} {L : List (Addr × Value)} (h : w.cell? a = some v) (hL : HasL w L) : HasL w ((a, v) :: L) := fun p hp => by
  rcases List.mem_cons.1 hp with rfl | hp
  · exact h
  · exact hL p hp
theorem HasL.ext {w w' : World} {L : List (Addr × Value)} (h : HasL w L) (hx : Ext w w') : HasL w' L := fun p hp => hx.cell (h p hp)
theorem HasL.hd {w : World} {a : Addr} {v : Value} {L : List (Addr × Value)} (h : HasL w ((a, v) :: L)) : w.cell? a = some v := h _ (List.mem_cons_self ..)
theorem HasL.tl {w : World} {a : Addr} {v : Value} {L : List (Addr × Value)} (h : HasL w ((a, v) :: L)) : HasL w L := fun p hp => h p (List.mem_cons_of_mem _ hp)
theorem rd_new {w : World} {xs : List Int} {cs : Array Value} {t : TypeId} {k : Nat} (hk : k = w.heap.size) (hc : cs.toList = xs.map (Value.int .i64)) (hl : xs.length ≤ 1000) : RdI S0 (w.alloc (.cells cs t)) (.slice (some ⟨k, 0, none⟩) xs.length xs.length) xs := by
  subst hk
  exact rd_blk (Blk.new _ _ _) hc hl
set_option maxRecDepth 100000 in
set_option maxHeartbeats 2000000 in
theorem law_known (w : World) : Calls Try.prog 14 #[] w fun e w' => e = .returned (.bool true) ∧ Ext w w' := by
  go_enter Try.func14, Try.ntmps14
  have hE := Ext.refl w
  go_wp2_with fail
  refine (law_leg true _ 3 3 _).mono ?_
  rintro e w1 ⟨k1, rfl, hb, hx⟩
  have hE1 := (hE.alloc _).trans hx
  have hs := (rd_new (w := w) (xs := [61, 0, 40]) rfl rfl (by decide)).ext hx
  clear hx hE
  go_wp2_with fail
  refine (call_v k1 _ _ hb hs).mono ?_
  rintro e w2 ⟨vg, vc, rfl, ⟨v1, v2, v3⟩, hx⟩
  have hE2 := hE1.trans hx
  have HC2 := Lib.hid (HasL.cons v1 (HasL.cons v2 (HasL.cons v3 (HasL.nil _))))
  clear hx hE1 hb hs v1 v2 v3
  go_wp2_with fail
  refine (law_leg true _ 3 3 _).mono ?_
  rintro e w3 ⟨k3, rfl, hb, hx⟩
  have hE3 := (hE2.alloc _).trans hx
  have hs := (rd_new (w := w2) (xs := [61, 0, 40]) rfl rfl (by decide)).ext hx
  have HC3 := Lib.hid (HC2.out.ext (Ext.trans ((Ext.refl _).alloc _) hx))
  clear hx hE2 HC2
  go_wp2_with fail
  refine (call_t k3 w2.heap.size w3.heap.size _ (Blk.new _ _ _) (hb.ext ((Ext.refl _).alloc _)) (hs.ext ((Ext.refl _).alloc _))).mono ?_
  rintro e w4 ⟨rfl, hx⟩
  have hE4 := (hE3.alloc _).trans hx
  have HC4 := Lib.hid (HC3.out.ext (Ext.trans ((Ext.refl _).alloc _) hx))
  clear hx hE3 HC3 hb hs
  go_wp2_with fail
  refine (call_a _).mono ?_
  rintro e w5 ⟨rfl, hx⟩
  have hT : Blk w5 w4.heap.size #[.int .i64 1, .int .i64 1, .int .i64 3, .int .i64 101, .int .i64 5, .int .i64 9, .int .i64 2, .int .i64 7, .int .i64 0, .int .i64 0, .int .i64 0, .int .i64 40] := (Blk.new w4 _ _).ext hx
  have hs : Ext w5 (w5.alloc (.cells #[.int .i64 101, .int .i64 3, .int .i64 303, .int .i64 5] 59)) := (Ext.refl w5).alloc _
  have hE5 := (hE4.alloc _).trans hx
  have HC5 := Lib.hid (HC4.out.ext (Ext.trans ((Ext.refl _).alloc _) hx))
  have t0 := (hT.ext hs).cell 0 (v := .int .i64 1) rfl
  have t1 := (hT.ext hs).cell 1 (v := .int .i64 1) rfl
  have t2 := (hT.ext hs).cell 2 (v := .int .i64 3) rfl
  have t3 := (hT.ext hs).cell 3 (v := .int .i64 101) rfl
  have t4 := (hT.ext hs).cell 4 (v := .int .i64 5) rfl
  have t5 := (hT.ext hs).cell 5 (v := .int .i64 9) rfl
  have t6 := (hT.ext hs).cell 6 (v := .int .i64 2) rfl
  have t7 := (hT.ext hs).cell 7 (v := .int .i64 7) rfl
  have t8 := (hT.ext hs).cell 8 (v := .int .i64 0) rfl
  have t9 := (hT.ext hs).cell 9 (v := .int .i64 0) rfl
  have t10 := (hT.ext hs).cell 10 (v := .int .i64 0) rfl
  have t11 := (hT.ext hs).cell 11 (v := .int .i64 40) rfl
  have HT := Lib.hid hT
  generalize w4.heap.size = kt at *
  clear hx hE4 HC4 hT hs
  go_wp2_with fail
  refine (call_r _).mono ?_
  rintro e w6 ⟨rfl, hx⟩
  have hs := Ext.trans ((Ext.refl w5).alloc (.cells #[.int .i64 101, .int .i64 3, .int .i64 303, .int .i64 5] 59)) hx
  have hE6 := hE5.trans hs
  have hA : Blk w6 w5.heap.size #[.int .i64 101, .int .i64 3, .int .i64 303, .int .i64 5] := (Blk.new w5 _ _).ext hx
  have hT := HT.out.ext hs
  have HC6 := Lib.hid (HasL.cons (hT.cell 3 (v := .int .i64 101) rfl) (HasL.cons (hT.cell 4 (v := .int .i64 5) rfl) (HasL.cons (hT.cell 7 (v := .int .i64 7) rfl) (HasL.cons (hT.cell 11 (v := .int .i64 40) rfl)
    (HasL.cons (hA.cell 0 (v := .int .i64 101) rfl) (HasL.cons (hA.cell 1 (v := .int .i64 3) rfl) (HasL.cons (hA.cell 2 (v := .int .i64 303) rfl) (HC5.out.ext hs))))))))
  generalize w5.heap.size = ka at *
  clear hx hE5 HC5 hs hA hT HT t0 t1 t2 t3 t4 t5 t6 t7 t8 t9 t10 t11
  go_wp2_with fail
  refine (law_leg true _ 3 3 _).mono ?_
  rintro e w7 ⟨k7, rfl, hb, hx⟩
  have hE7 := Ext.trans ((hE6.alloc _).alloc _) hx
  have hR : Blk w7 w6.heap.size #[.int .i64 1, .int .i64 7, .int .i64 1, .int .i64 2] := ((Blk.new w6 _ _).alloc _).ext hx
  have hs := (rd_new (w := w6.alloc _) (xs := [61, 0, 40]) (k := w6.heap.size + 1) (by simp) rfl (by decide)).ext hx
  have HC7 := Lib.hid (HasL.cons (hR.cell 1 (v := .int .i64 7) rfl) (HasL.cons (hR.cell 3 (v := .int .i64 2) rfl) (HC6.out.ext (Ext.trans (((Ext.refl _).alloc _).alloc _) hx))))
  clear hx hE6 HC6 hR
  generalize w6.heap.size = kr at *
  go_wp2_with fail
  refine (call_s k7 _ _ hb hs).mono ?_
  rintro e w8 ⟨sg, sc, a0, c0, a1, c1, rfl, ⟨s1, s2, s3, s4, s5⟩, hx⟩
  have hE8 := hE7.trans hx
  have HC8 := Lib.hid (HasL.cons s1 (HasL.cons s2 (HasL.cons s3 (HasL.cons s4 (HasL.cons s5 (HC7.out.ext hx))))))
  clear hx hE7 HC7 hb hs s1 s2 s3 s4 s5
  go_wp2_with fail
  refine (law_laws _).mono ?_
  rintro e w9 ⟨rfl, hx⟩
  have hE9 := hE8.trans hx
  have HC9 := Lib.hid (HC8.out.ext hx)
  clear hx hE8 HC8
  go_wp2_with fail
  refine (law_beds _).mono ?_
  rintro e w10 ⟨k10, rfl, -, hb, hx⟩
  have hE10 := hE9.trans hx
  have HC10 := Lib.hid (HC9.out.ext hx)
  clear hx hE9 HC9
  go_wp2_with fail
  refine (call_x k10 w10.heap.size (w10.heap.size + 1) (w10.heap.size + 1 + 1) _ _ (hb.ext (by exact ((((Ext.refl _).alloc _).alloc _).alloc _).alloc _)) (by exact (((Blk.new w10 _ _).alloc _).alloc _).alloc _) (by exact ((Blk.at (w10.heap.size + 1) (by simp)).alloc _).alloc _) (by exact (Blk.at (w10.heap.size + 1 + 1) (by simp)).alloc _) (by exact Blk.at _ (by simp))).mono ?_
  rintro e w11 ⟨la, lc, g, lsc, rfl, x1, hx⟩
  have hs : Ext w10 w11 := Ext.trans (((((Ext.refl _).alloc _).alloc _).alloc _).alloc _) hx
  have hE11 := hE10.trans hs
  have HC11 := Lib.hid (HasL.cons x1 (HC10.out.ext hs))
  clear hx hs hE10 HC10 x1 hb
  go_wp2_with fail
  refine (law_leg true _ 2 2 _).mono ?_
  rintro e w12 ⟨k12, rfl, hb, hx⟩
  have hE12 := Ext.trans (((hE11.alloc _).alloc _).alloc _) hx
  have hX : Blk w12 w11.heap.size #[.int .i64 1, .int .i64 1, .int .i64 3, .int .i64 101, .int .i64 6, .int .i64 6, .int .i64 4, .int .i64 4, .int .i64 0, .int .i64 0, .int .i64 0, .int .i64 40] := (((Blk.new w11 _ _).alloc _).alloc _).ext hx
  have hL : Blk w12 (w11.heap.size + 1) #[.int .i64 101, .int .i64 0, .int .i64 1, .slice la 5 lc, .slice (some ⟨g, 0, none⟩) 3 lsc, .bool true] := (Blk.ext ((Blk.at (w11.heap.size + 1) (by simp)).alloc _) hx)
  have hs := (rd_new (w := (w11.alloc _).alloc _) (xs := [61, 41]) (k := w11.heap.size + 1 + 1) (by simp) rfl (by decide)).ext hx
  have HC12 := Lib.hid (HasL.cons (hX.cell 4 (v := .int .i64 6) rfl) (HasL.cons (hX.cell 7 (v := .int .i64 4) rfl) (HasL.cons (hL.cell 4 (v := .slice (some ⟨g, 0, none⟩) 3 lsc) rfl) (HasL.cons (hL.cell 5 (v := .bool true) rfl) (HC11.out.ext (Ext.trans ((((Ext.refl _).alloc _).alloc _).alloc _) hx))))))
  clear hx hE11 HC11 hX hL
  generalize w11.heap.size = kx at *
  go_wp2_with fail
  refine (call_w k12 _ _ hb hs).mono ?_
  rintro e w13 ⟨wa, wc, rfl, hx⟩
  have hE13 := hE12.trans hx
  have HC13 := Lib.hid (HC12.out.ext hx)
  clear hx hE12 HC12 hb hs
  go_wp2_with fail
  refine (call_b _).mono ?_
  rintro e w14 ⟨rfl, hx⟩
  have hE14 := Ext.trans ((hE13.alloc _).alloc _) hx
  have HC14 := (HC13.out.ext (Ext.trans (((Ext.refl _).alloc _).alloc _) hx))
  clear hx hE13 HC13
  have f0 := HC14.hd
  replace HC14 := HC14.tl
  have f1 := HC14.hd
  replace HC14 := HC14.tl
  have f2 := HC14.hd
  replace HC14 := HC14.tl
  have f3 := HC14.hd
  replace HC14 := HC14.tl
  have f4 := HC14.hd
  replace HC14 := HC14.tl
  have f5 := HC14.hd
  replace HC14 := HC14.tl
  have f6 := HC14.hd
  replace HC14 := HC14.tl
  have f7 := HC14.hd
  replace HC14 := HC14.tl
  have f8 := HC14.hd
  replace HC14 := HC14.tl
  have f9 := HC14.hd
  replace HC14 := HC14.tl
  have f10 := HC14.hd
  replace HC14 := HC14.tl
  have f11 := HC14.hd
  replace HC14 := HC14.tl
  have f12 := HC14.hd
  replace HC14 := HC14.tl
  have f13 := HC14.hd
  replace HC14 := HC14.tl
  have f14 := HC14.hd
  replace HC14 := HC14.tl
  have f15 := HC14.hd
  replace HC14 := HC14.tl
  have f16 := HC14.hd
  replace HC14 := HC14.tl
  have f17 := HC14.hd
  replace HC14 := HC14.tl
  have f18 := HC14.hd
  replace HC14 := HC14.tl
  have f19 := HC14.hd
  replace HC14 := HC14.tl
  have f20 := HC14.hd
  replace HC14 := HC14.tl
  have f21 := HC14.hd
  replace HC14 := HC14.tl
  clear HC14
  go_wp2_with fail
  go_ret
  exact ⟨rfl, hE14⟩
end Go.Proofs.Ytmopadnkjlodnaa
namespace Go.Proofs.Ytmopadnkjlodnaa
open Go.RowKit Go.BigFrame
/-- What known() does. -/
def Knows : Prop := ∀ w, Calls Try.prog 14 #[] w fun e w' => e = .returned (.bool true) ∧ Ext w w'
set_option maxRecDepth 100000 in
set_option maxHeartbeats 2000000 in
theorem law_betters (HK : Hid Knows) (aln ald ahn ahd bln bld bhn bhd : Int) (w : World) : Calls Try.prog 7 #[.agg #[.int .i64 aln, .int .i64 ald, .int .i64 ahn, .int .i64 ahd], .agg #[.int .i64 bln, .int .i64 bld, .int .i64 bhn, .int .i64 bhd]] w fun e w' => e = .returned (.bool true) ∧ Ext w w' := by
  go_enter Try.func7, Try.ntmps7
  go_wp2_with fail
  refine (mean_Better ⟨⟨aln, ald⟩, ⟨ahn, ahd⟩⟩ ⟨⟨bln, bld⟩, ⟨bhn, bhd⟩⟩ _).mono ?_
  rintro e w1 ⟨rfl, hx⟩
  have hE1 := Ext.trans (((Ext.refl w).alloc _).alloc _) hx
  have hA : Blk w1 w.heap.size #[.int .i64 aln, .int .i64 ald, .int .i64 ahn, .int .i64 ahd] := ((Blk.new w _ _).alloc _).ext hx
  have hB : Blk w1 (w.heap.size + 1) #[.int .i64 bln, .int .i64 bld, .int .i64 bhn, .int .i64 bhd] := (Blk.at (w.heap.size + 1) (by simp)).ext hx
  have HA := Lib.hid hA
  have HB := Lib.hid hB
  have HE1 := Lib.hid hE1
  clear hE1
  obtain ⟨ra, hra⟩ : ∃ y, ranR ⟨⟨aln, ald⟩, ⟨ahn, ahd⟩⟩ = y := ⟨_, rfl⟩
  obtain ⟨rb, hrb⟩ : ∃ y, ranR ⟨⟨bln, bld⟩, ⟨bhn, bhd⟩⟩ = y := ⟨_, rfl⟩
  have hra' := Lib.hid hra
  have hrb' := Lib.hid hrb
  have a0 := hA.cell 0 (v := .int .i64 aln) rfl
  have a1 := hA.cell 1 (v := .int .i64 ald) rfl
  have a2 := hA.cell 2 (v := .int .i64 ahn) rfl
  have a3 := hA.cell 3 (v := .int .i64 ahd) rfl
  generalize w.heap.size = kb at *
  clear hA hB hra hrb hx
  cases ra
  · rw [bet_bad (.inl hra'.out)]
    go_wp2_with fail
    refine (ref_Range aln ald ahn ahd _).mono ?_
    rintro e w2 ⟨rfl, hx2⟩
    rw [hra'.out]
    have HE2 := Lib.hid (HE1.out.trans hx2)
    go_wp2_with fail
    refine (HK.out _).mono ?_
    rintro e w3 ⟨rfl, hx3⟩
    go_wp2_with fail
    go_ret
    exact ⟨rfl, HE2.out.trans hx3⟩
  cases rb
  · rw [bet_bad (.inr hrb'.out)]
    go_wp2_with fail
    refine (ref_Range aln ald ahn ahd _).mono ?_
    rintro e w2 ⟨rfl, hx2⟩
    rw [hra'.out]
    have HE2 := Lib.hid (HE1.out.trans hx2)
    have b0 := (HB.out.ext hx2).cell 0 (v := .int .i64 bln) rfl
    have b1 := (HB.out.ext hx2).cell 1 (v := .int .i64 bld) rfl
    have b2 := (HB.out.ext hx2).cell 2 (v := .int .i64 bhn) rfl
    have b3 := (HB.out.ext hx2).cell 3 (v := .int .i64 bhd) rfl
    go_wp2_with fail
    refine (ref_Range bln bld bhn bhd _).mono ?_
    rintro e w3 ⟨rfl, hx3⟩
    rw [hrb'.out]
    have HE3 := Lib.hid (HE2.out.trans hx3)
    go_wp2_with fail
    refine (HK.out _).mono ?_
    rintro e w4 ⟨rfl, hx4⟩
    go_wp2_with fail
    go_ret
    exact ⟨rfl, HE3.out.trans hx4⟩
  · rw [bet_ok hra'.out hrb'.out]
    go_wp2_with fail
    refine (ref_Range aln ald ahn ahd _).mono ?_
    rintro e w2 ⟨rfl, hx2⟩
    rw [hra'.out]
    have HE2 := Lib.hid (HE1.out.trans hx2)
    have b0 := (HB.out.ext hx2).cell 0 (v := .int .i64 bln) rfl
    have b1 := (HB.out.ext hx2).cell 1 (v := .int .i64 bld) rfl
    have b2 := (HB.out.ext hx2).cell 2 (v := .int .i64 bhn) rfl
    have b3 := (HB.out.ext hx2).cell 3 (v := .int .i64 bhd) rfl
    go_wp2_with fail
    refine (ref_Range bln bld bhn bhd _).mono ?_
    rintro e w3 ⟨rfl, hx3⟩
    rw [hrb'.out]
    have HE3 := Lib.hid (HE2.out.trans hx3)
    have hA3 := (HA.out.ext hx2).ext hx3
    have hB3 := (HB.out.ext hx2).ext hx3
    have c0 := hA3.cell 0 (v := .int .i64 aln) rfl
    have c1 := hA3.cell 1 (v := .int .i64 ald) rfl
    have d2 := hB3.cell 2 (v := .int .i64 bhn) rfl
    have d3 := hB3.cell 3 (v := .int .i64 bhd) rfl
    clear hA3 hB3
    go_wp2_with fail
    refine (ref_Less bhn bhd aln ald _).mono ?_
    rintro e w4 ⟨rfl, hx4⟩
    have HE4 := Lib.hid (HE3.out.trans hx4)
    have hA4 := ((HA.out.ext hx2).ext hx3).ext hx4
    have hB4 := ((HB.out.ext hx2).ext hx3).ext hx4
    have c2 := hA4.cell 2 (v := .int .i64 ahn) rfl
    have c3 := hA4.cell 3 (v := .int .i64 ahd) rfl
    have d0 := hB4.cell 0 (v := .int .i64 bln) rfl
    have d1 := hB4.cell 1 (v := .int .i64 bld) rfl
    clear hA4 hB4
    generalize lesW ⟨bhn, bhd⟩ ⟨aln, ald⟩ = l1
    go_wp2_with fail
    refine (ref_Less bln bld ahn ahd _).mono ?_
    rintro e w5 ⟨rfl, hx5⟩
    have HE5 := Lib.hid (HE4.out.trans hx5)
    generalize lesW ⟨bln, bld⟩ ⟨ahn, ahd⟩ = l2
    go_wp2_with fail
    refine (HK.out _).mono ?_
    rintro e w6 ⟨rfl, hx6⟩
    go_wp2_with fail
    go_ret
    exact ⟨rfl, HE5.out.trans hx6⟩
end Go.Proofs.Ytmopadnkjlodnaa
namespace Go.Proofs.Ytmopadnkjlodnaa
open Go.RowKit Go.BigFrame
theorem eqFra (d : Nat) (a b a' b' : Int) (w : World) : (Op.equalIn (d + 2) 57 (.agg #[.int .i64 a, .int .i64 b]) (.agg #[.int .i64 a', .int .i64 b'])).run Try.prog w = .ok (a == a' && b == b') w := by
  have u3 := Try.underlying3
  have a3 := Try.isAgg3
  have z3 := Try.sizeOf3
  have hS : Try.prog.underlying 57 = some (.struct (Try.prog.fieldsOf 57)) := by kernel_rfl
  rw [run_equalIn_struct w (d + 1) 57 _ _ hS (by kernel_rfl)]
  simp only [Program.fieldsOf, Try.underlying57]
  go_simp
  by_cases h1 : a = a' <;> by_cases h2 : b = b' <;> simp [h1, h2]
theorem eqRng (a b c e : Int) (w : World) : (Op.equalIn 10000 59 (.agg #[.int .i64 a, .int .i64 b, .int .i64 c, .int .i64 e]) (.agg #[.int .i64 a, .int .i64 b, .int .i64 c, .int .i64 e])).run Try.prog w = .ok true w := by
  have a3 := Try.isAgg57
  have z3 := Try.sizeOf57
  have hS : Try.prog.underlying 59 = some (.struct (Try.prog.fieldsOf 59)) := by kernel_rfl
  have e1 := fun W => eqFra 9997 a b a b W
  have e2 := fun W => eqFra 9997 c e c e W
  rw [show (10000 : Nat) = 9999 + 1 from rfl, run_equalIn_struct w 9999 59 _ _ hS (by kernel_rfl)]
  simp only [Program.fieldsOf, Try.underlying59]
  go_simp
attribute [local go_sem] eqRng
set_option maxRecDepth 100000 in
set_option maxHeartbeats 2000000 in
theorem law_ranges (HK : Hid Knows) (t : Tot) (w : World) : Calls Try.prog 5 #[t.agg] w fun e w' => e = .returned (.bool true) ∧ Ext w w' := by
  have HA := Lib.hid (fun W => mean_Average t W)
  have HR := Lib.hid (fun W => mean_Rate t W)
  have HP := Lib.hid (fun W => ref_Average t W)
  have HQ := Lib.hid (fun W => ref_Rate t W)
  rw [avr_avg] at HP
  rw [rar_rat] at HQ
  obtain ⟨⟨⟨⟨a0, a1⟩, ⟨a2, a3⟩⟩, ae⟩, ha⟩ : ∃ y, avgS t = y := ⟨_, rfl⟩
  obtain ⟨⟨⟨⟨r0, r1⟩, ⟨r2, r3⟩⟩, re⟩, hr⟩ : ∃ y, ratS t = y := ⟨_, rfl⟩
  rw [ha] at HA HP
  rw [hr] at HR HQ
  clear ha hr
  obtain ⟨legs, won, visits, points, ⟨dl, dh⟩, ⟨tl, th⟩, tons, highs, tops, best⟩ := t
  unfold Tot.agg Ran.agg at *
  simp only at *
  go_enter Try.func5, Try.ntmps5
  go_wp2_with fail
  refine (HA.out _).mono ?_
  rintro e w1 ⟨rfl, hx⟩
  have hE1 := Lib.hid (Ext.trans ((Ext.refl w).alloc _) hx)
  have HB1 := Lib.hid (show Blk w1 w.heap.size #[.int .i64 legs, .int .i64 won, .int .i64 visits, .int .i64 points, .int .i64 dl, .int .i64 dh, .int .i64 tl, .int .i64 th, .int .i64 tons, .int .i64 highs, .int .i64 tops, .int .i64 best] from (Blk.new w _ _).ext hx)
  generalize hkt : w.heap.size = KT at *
  clear hx hkt
  have hs : Ext w1 (w1.alloc (.cells #[.int .i64 a0, .int .i64 a1, .int .i64 a2, .int .i64 a3] 59)) := (Ext.refl w1).alloc _
  have c0 := (HB1.out.ext hs).cell 0 (v := .int .i64 legs) rfl
  have c1 := (HB1.out.ext hs).cell 1 (v := .int .i64 won) rfl
  have c2 := (HB1.out.ext hs).cell 2 (v := .int .i64 visits) rfl
  have c3 := (HB1.out.ext hs).cell 3 (v := .int .i64 points) rfl
  have c4 := (HB1.out.ext hs).cell 4 (v := .int .i64 dl) rfl
  have c5 := (HB1.out.ext hs).cell 5 (v := .int .i64 dh) rfl
  have c6 := (HB1.out.ext hs).cell 6 (v := .int .i64 tl) rfl
  have c7 := (HB1.out.ext hs).cell 7 (v := .int .i64 th) rfl
  have c8 := (HB1.out.ext hs).cell 8 (v := .int .i64 tons) rfl
  have c9 := (HB1.out.ext hs).cell 9 (v := .int .i64 highs) rfl
  have c10 := (HB1.out.ext hs).cell 10 (v := .int .i64 tops) rfl
  have c11 := (HB1.out.ext hs).cell 11 (v := .int .i64 best) rfl
  clear hs
  go_wp2_with fail
  refine (HR.out _).mono ?_
  rintro e w2 ⟨rfl, hx⟩
  have hs := Ext.trans ((Ext.refl w1).alloc _) hx
  have hE2 := Lib.hid (hE1.out.trans hs)
  have HB2 := Lib.hid (HB1.out.ext hs)
  have HK12 := Lib.hid (show Blk w2 w1.heap.size #[.int .i64 a0, .int .i64 a1, .int .i64 a2, .int .i64 a3] from (Blk.new w1 _ _).ext hx)
  generalize w1.heap.size = K1 at *
  clear hx hs hE1 HB1  c0 c1 c2 c3 c4 c5 c6 c7 c8 c9 c10 c11
  have hs : Ext w2 (w2.alloc (.cells #[.int .i64 r0, .int .i64 r1, .int .i64 r2, .int .i64 r3] 59)) := (Ext.refl w2).alloc _
  have c0 := (HB2.out.ext hs).cell 0 (v := .int .i64 legs) rfl
  have c1 := (HB2.out.ext hs).cell 1 (v := .int .i64 won) rfl
  have c2 := (HB2.out.ext hs).cell 2 (v := .int .i64 visits) rfl
  have c3 := (HB2.out.ext hs).cell 3 (v := .int .i64 points) rfl
  have c4 := (HB2.out.ext hs).cell 4 (v := .int .i64 dl) rfl
  have c5 := (HB2.out.ext hs).cell 5 (v := .int .i64 dh) rfl
  have c6 := (HB2.out.ext hs).cell 6 (v := .int .i64 tl) rfl
  have c7 := (HB2.out.ext hs).cell 7 (v := .int .i64 th) rfl
  have c8 := (HB2.out.ext hs).cell 8 (v := .int .i64 tons) rfl
  have c9 := (HB2.out.ext hs).cell 9 (v := .int .i64 highs) rfl
  have c10 := (HB2.out.ext hs).cell 10 (v := .int .i64 tops) rfl
  have c11 := (HB2.out.ext hs).cell 11 (v := .int .i64 best) rfl
  clear hs
  go_wp2_with fail
  refine (HP.out _).mono ?_
  rintro e w3 ⟨rfl, hx⟩
  have hs := Ext.trans ((Ext.refl w2).alloc _) hx
  have hE3 := Lib.hid (hE2.out.trans hs)
  have HB3 := Lib.hid (HB2.out.ext hs)
  have HK13 := Lib.hid (HK12.out.ext hs)
  have HK23 := Lib.hid (show Blk w3 w2.heap.size #[.int .i64 r0, .int .i64 r1, .int .i64 r2, .int .i64 r3] from (Blk.new w2 _ _).ext hx)
  generalize w2.heap.size = K2 at *
  clear hx hs hE2 HB2 HK12 c0 c1 c2 c3 c4 c5 c6 c7 c8 c9 c10 c11
  have hs : Ext w3 (w3.alloc (.cells #[.int .i64 a0, .int .i64 a1, .int .i64 a2, .int .i64 a3] 59)) := (Ext.refl w3).alloc _
  have c0 := (HB3.out.ext hs).cell 0 (v := .int .i64 legs) rfl
  have c1 := (HB3.out.ext hs).cell 1 (v := .int .i64 won) rfl
  have c2 := (HB3.out.ext hs).cell 2 (v := .int .i64 visits) rfl
  have c3 := (HB3.out.ext hs).cell 3 (v := .int .i64 points) rfl
  have c4 := (HB3.out.ext hs).cell 4 (v := .int .i64 dl) rfl
  have c5 := (HB3.out.ext hs).cell 5 (v := .int .i64 dh) rfl
  have c6 := (HB3.out.ext hs).cell 6 (v := .int .i64 tl) rfl
  have c7 := (HB3.out.ext hs).cell 7 (v := .int .i64 th) rfl
  have c8 := (HB3.out.ext hs).cell 8 (v := .int .i64 tons) rfl
  have c9 := (HB3.out.ext hs).cell 9 (v := .int .i64 highs) rfl
  have c10 := (HB3.out.ext hs).cell 10 (v := .int .i64 tops) rfl
  have c11 := (HB3.out.ext hs).cell 11 (v := .int .i64 best) rfl
  clear hs
  go_wp2_with fail
  refine (HQ.out _).mono ?_
  rintro e w4 ⟨rfl, hx⟩
  have hs := Ext.trans ((Ext.refl w3).alloc _) hx
  have hE4 := Lib.hid (hE3.out.trans hs)
  have HB4 := Lib.hid (HB3.out.ext hs)
  have HK14 := Lib.hid (HK13.out.ext hs)
  have HK24 := Lib.hid (HK23.out.ext hs)
  have HK34 := Lib.hid (show Blk w4 w3.heap.size #[.int .i64 a0, .int .i64 a1, .int .i64 a2, .int .i64 a3] from (Blk.new w3 _ _).ext hx)
  generalize w3.heap.size = K3 at *
  clear hx hs hE3 HB3 HK13 HK23 c0 c1 c2 c3 c4 c5 c6 c7 c8 c9 c10 c11
  have hs : Ext w4 (w4.alloc (.cells #[.int .i64 r0, .int .i64 r1, .int .i64 r2, .int .i64 r3] 59)) := (Ext.refl w4).alloc _
  have xK10 := (HK14.out.ext hs).cell 0 (v := .int .i64 a0) rfl
  have xK11 := (HK14.out.ext hs).cell 1 (v := .int .i64 a1) rfl
  have xK12 := (HK14.out.ext hs).cell 2 (v := .int .i64 a2) rfl
  have xK13 := (HK14.out.ext hs).cell 3 (v := .int .i64 a3) rfl
  have xK20 := (HK24.out.ext hs).cell 0 (v := .int .i64 r0) rfl
  have xK21 := (HK24.out.ext hs).cell 1 (v := .int .i64 r1) rfl
  have xK22 := (HK24.out.ext hs).cell 2 (v := .int .i64 r2) rfl
  have xK23 := (HK24.out.ext hs).cell 3 (v := .int .i64 r3) rfl
  have xK30 := (HK34.out.ext hs).cell 0 (v := .int .i64 a0) rfl
  have xK31 := (HK34.out.ext hs).cell 1 (v := .int .i64 a1) rfl
  have xK32 := (HK34.out.ext hs).cell 2 (v := .int .i64 a2) rfl
  have xK33 := (HK34.out.ext hs).cell 3 (v := .int .i64 a3) rfl
  have hE5 := Lib.hid (hE4.out.trans hs)
  clear hs
  go_wp2_with fail
  refine (HK.out _).mono ?_
  rintro e w5 ⟨rfl, hx⟩
  go_wp2_with fail
  go_ret
  exact ⟨rfl, hE5.out.trans hx⟩
end Go.Proofs.Ytmopadnkjlodnaa
namespace Go.Proofs.Ytmopadnkjlodnaa
open Go.RowKit Go.BigFrame
theorem law_MeanRanges (z0 z1 z2 z3 z4 z5 z6 z7 z8 z9 za zb : Int) (w : World) : Calls Try.prog 5 #[.agg #[.int .i64 z0, .int .i64 z1, .int .i64 z2, .int .i64 z3, .int .i64 z4, .int .i64 z5, .int .i64 z6, .int .i64 z7, .int .i64 z8, .int .i64 z9, .int .i64 za, .int .i64 zb]] w fun e w' => e = .returned (.bool true) ∧ Ext w w' :=
  law_ranges (Lib.hid law_known) ⟨z0, z1, z2, z3, ⟨z4, z5⟩, ⟨z6, z7⟩, z8, z9, za, zb⟩ w
end Go.Proofs.Ytmopadnkjlodnaa
namespace Go.Proofs.Ytmopadnkjlodnaa
open Go.RowKit
inductive Shp where
  | int (k : IntKind)
  | bool
  | nil
  | pair (a b : Shp)
  | slice (n : Nat) (e : Shp)
/-- Cells are of a shape. -/
def Sat (w : World) : Shp → List Value → Prop
  | .int k, cs => ∃ n, cs = [.int k n] ∧ (Lit.int k n).wf = true
  | .bool, cs => ∃ b, cs = [.bool b]
  | .nil, cs => cs = []
  | .pair a b, cs => ∃ xs ys, cs = xs ++ ys ∧ Sat w a xs ∧ Sat w b ys
  | .slice n e, cs => ∃ a len cap, cs = [.slice a len cap] ∧ (a = none → len = 0 ∧ cap = 0) ∧ (len ≤ cap ∧ cap ≤ maxLen) ∧ ∀ i, i < len → ∃ b o xs, a = some ⟨b, o, none⟩ ∧ xs.length = n ∧ (∀ j, j < n → w.cell? ⟨b, o + (i * n + j), none⟩ = xs[j]?) ∧ Sat w e xs
def shpF (P : Program) (g : Shp → TypeId → Bool) (total : Nat) : List Field → Nat → Shp → Bool
  | [], off, .nil => decide (off = total)
  | f :: fs, off, .pair a b => decide (f.offset = off) && g a f.type && shpF P g total fs (off + P.cellsOf f.type) b
  | _, _, _ => false
def shpA (g : Shp → TypeId → Bool) (e c total : Nat) : Nat → Nat → Shp → Bool
  | 0, i, .nil => decide (i * c = total)
  | n + 1, i, .pair a b => g a e && shpA g e c total n (i + 1) b
  | _, _, _ => false
/-- A type is of a shape. -/
def shpB (P : Program) : Nat → Shp → TypeId → Bool
  | 0, _, _ => false
  | f + 1, s, t =>
    match P.underlying t with
    | some (.int k) => (match s with | .int k' => decide (k' = k) | _ => false)
    | some .bool => (match s with | .bool => true | _ => false)
    | some (.slice e) => (match s with | .slice n s' => decide (P.cellsOf e = n) && decide (0 < n) && shpB P f s' e | _ => false)
    | some (.struct fs) => shpF P (shpB P f) (P.cellsOf t) fs.toList 0 s
    | some (.array n e) => shpA (shpB P f) e (P.cellsOf e) (P.cellsOf t) n 0 s
    | _ => false
section
variable {H : Type} {enc : TypeId × Value → H} {P : Program} {w : World} {spare : Nat → Bool} {held : Bool}
theorem sat_fields {g : Shp → TypeId → Bool} {cs : List Value} {n : Nat} {fs : List Field}
    (ih : ∀ s t cs x, g s t = true → DataW.trod enc P w 0 spare held n t cs = some x → Sat w s cs) :
    ∀ (l : List Field) (i off : Nat) (s : Shp), (∀ j, l[j]? = fs[i + j]?) → (∀ (i : Nat) (f : Field), fs[i]? = some f → ∃ x, DataW.trod enc P w 0 spare held n f.type ((cs.drop f.offset).take (P.cellsOf f.type)) = some x) →
      shpF P g cs.length l off s = true → Sat w s (cs.drop off)
  | [], _, off, s, _, _, h => by
    cases s <;> simp only [shpF, Bool.false_eq_true] at h
    have : off = cs.length := by simpa using h
    subst this
    simp [Sat]
  | f :: l, i, off, s, hl, hf, h => by
    cases s <;> simp only [shpF, Bool.false_eq_true, Bool.and_eq_true, decide_eq_true_eq] at h
    rename_i a b
    obtain ⟨⟨rfl, h1⟩, h2⟩ := h
    obtain ⟨x, hx⟩ := hf i f (by have := hl 0; simpa using this.symm)
    have ha := ih a f.type _ _ h1 hx
    have hb := sat_fields ih l (i + 1) _ b (fun j => by have := hl (j + 1); rw [Nat.add_assoc, Nat.add_comm 1 j]; simpa using this) hf h2
    refine ⟨_, _, ?_, ha, hb⟩
    rw [← List.drop_drop, List.take_append_drop]
theorem sat_elems {g : Shp → TypeId → Bool} {cs : List Value} {n e c : Nat}
    (ih : ∀ s t cs x, g s t = true → DataW.trod enc P w 0 spare held n t cs = some x → Sat w s cs) :
    ∀ (m i : Nat) (s : Shp), (∀ j, i ≤ j → j < i + m → ∃ x, DataW.trod enc P w 0 spare held n e ((cs.drop (j * c)).take c) = some x) →
      shpA g e c cs.length m i s = true → Sat w s (cs.drop (i * c))
  | 0, i, s, _, h => by
    cases s <;> simp only [shpA, Bool.false_eq_true] at h
    have : i * c = cs.length := by simpa using h
    rw [this]
    simp [Sat]
  | m + 1, i, s, hf, h => by
    cases s <;> simp only [shpA, Bool.false_eq_true, Bool.and_eq_true] at h
    rename_i a b
    obtain ⟨h1, h2⟩ := h
    obtain ⟨x, hx⟩ := hf i (Nat.le_refl _) (by omega)
    have ha := ih a e _ _ h1 hx
    have hb := sat_elems ih m (i + 1) b (fun j h1 h2 => hf j (by omega) (by omega)) h2
    refine ⟨_, _, ?_, ha, hb⟩
    rw [Nat.add_mul, Nat.one_mul, ← List.drop_drop, List.take_append_drop]
theorem sat_of : ∀ (f : Nat) (s : Shp) (t : TypeId) (fuel : Nat) (cs : List Value) (x : DataW H × List MemPlace), shpB P f s t = true → DataW.trod enc P w 0 spare held fuel t cs = some x → Sat w s cs
  | 0, _, _, _, _, _, h, _ => by simp [shpB] at h
  | f + 1, s, t, fuel, cs, x, h, hx => by
    unfold shpB at h
    split at h
    · rename_i k ht
      split at h
      · have : _ = k := of_decide_eq_true h
        subst this
        obtain ⟨n, rfl, -, hw⟩ := DataW.trod_int ht hx
        exact ⟨n, rfl, hw⟩
      · cases h
    · rename_i ht
      split at h
      · obtain ⟨b, rfl, -⟩ := DataW.trod_bool ht hx
        exact ⟨b, rfl⟩
      · cases h
    · rename_i e ht
      split at h
      · rename_i n s'
        simp only [Bool.and_eq_true, decide_eq_true_eq] at h
        obtain ⟨⟨rfl, h0⟩, h1⟩ := h
        rcases DataW.trod_slice ht hx with ⟨rfl, -⟩ | ⟨a, len, cap, elems, rest, m, -, rfl, -, -, hlc, hcm, hlen, hel, -, -⟩
        · exact ⟨none, 0, 0, rfl, fun _ => ⟨rfl, rfl⟩, ⟨Nat.le_refl _, Nat.zero_le _⟩, fun i hi => absurd hi (by omega)⟩
        · refine ⟨some a, len, cap, rfl, fun h => (by cases h), ⟨hlc, hcm⟩, fun i hi => ?_⟩
          have he := hel i hi
          rw [List.getElem?_eq_getElem (by omega), Option.bind_eq_some_iff] at he
          obtain ⟨xs, hc, ht'⟩ := he
          obtain ⟨-, hl, hcell⟩ := World.cells?_some hc
          have hspot : a.spot = none := by
            have he0 := hel 0 (by omega)
            rw [List.getElem?_eq_getElem (by omega), Option.bind_eq_some_iff] at he0
            obtain ⟨ys, hc0, -⟩ := he0
            obtain ⟨-, hl0, hcell0⟩ := World.cells?_some hc0
            have hd := hcell0 0 h0
            rw [List.getElem?_eq_getElem (by omega)] at hd
            have := World.cell?_spot hd
            simpa [Addr.add] using this
          obtain ⟨b, o, sp⟩ := a
          simp only at hspot
          subst hspot
          refine ⟨b, o, xs, rfl, hl, fun j hj => ?_, sat_of f s' e m xs _ h1 ht'⟩
          have := hcell j hj
          rw [addr_add, addr_add, Nat.add_assoc] at this
          exact this
      · cases h
    · rename_i fs ht
      obtain ⟨xs, n, -, -, hl, hlen, hf⟩ := DataW.trod_struct ht hx
      rw [← hl] at h
      have := sat_fields (cs := cs) (n := n) (fs := fs.toList) (fun s t cs x => sat_of f s t n cs x) fs.toList 0 0 s (fun j => by simp) (fun i f hfi => by
        have h1 := hf i f (by simpa using hfi)
        have hlt : i < xs.length := by rw [hlen]; have := (List.getElem?_eq_some_iff.1 hfi).1; simpa using this
        rw [List.getElem?_eq_getElem hlt] at h1
        exact ⟨_, h1⟩) h
      simpa using this
    · rename_i n e ht
      obtain ⟨xs, m, -, -, hl, hlen, hf⟩ := DataW.trod_array ht hx
      rw [← hl] at h
      have := sat_elems (cs := cs) (n := m) (e := e) (c := P.cellsOf e) (fun s t cs x => sat_of f s t m cs x) n 0 s (fun j _ hj => by
        have h1 := hf j (by omega)
        rw [List.getElem?_eq_getElem (by omega)] at h1
        exact ⟨_, h1⟩) h
      simpa using this
    · cases h
theorem sat_arg {f : Nat} {s : Shp} {t : TypeId} {v : Value} {d : DataW H} {ps : List MemPlace} (hs : shpB P f s t = true) (h : DataW.Trod enc P w 0 spare held t v d ps) : Sat w s v.cells.toList := by
  obtain ⟨fuel, hf⟩ := h
  exact sat_of f s t fuel _ _ hs hf
end
theorem list_of {α : Type} {p : Nat → α → Prop} : ∀ n, (∀ i, i < n → ∃ x, p i x) → ∃ l : List α, l.length = n ∧ ∀ i, (h : i < l.length) → p i l[i]
  | 0, _ => ⟨[], rfl, fun i h => absurd h (by simp)⟩
  | n + 1, h => by
    obtain ⟨l, hl, hp⟩ := list_of n (fun i hi => h i (by omega))
    obtain ⟨x, hx⟩ := h n (by omega)
    refine ⟨l ++ [x], by simp [hl], fun i hi => ?_⟩
    by_cases hlt : i < l.length
    · rw [List.getElem_append_left hlt]; exact hp i hlt
    · have : i = n := by simp [hl] at hi; omega
      subst this
      rw [List.getElem_append_right (by omega)]
      simpa [hl] using hx
theorem i64_of_wf {x : Int} (h : (Lit.int .i64 x).wf = true) : I64 x := by
  simp [Lit.wf, IntKind.min, IntKind.max, IntKind.signed, IntKind.bits] at h
  unfold I64
  omega
/-- A slice of integers. -/
theorem sat_ints {w : World} {cs : List Value} (h : Sat w (.slice 1 (.int .i64)) cs) : ∃ a cap, ∃ l : List Int, cs = [.slice a l.length cap] ∧ (a = none → l.length = 0 ∧ cap = 0) ∧ l.length ≤ maxLen ∧ CellsAt w .i64 a l ∧ ∀ x ∈ l, I64 x := by
  obtain ⟨a, len, cap, rfl, hn, hl, h⟩ := h
  obtain ⟨l, rfl, hp⟩ := list_of (p := fun i (x : Int) => I64 x ∧ ∃ b o, a = some ⟨b, o, none⟩ ∧ w.cell? ⟨b, o + i, none⟩ = some (.int .i64 x)) len (fun i hi => by
    obtain ⟨b, o, xs, rfl, hlen, hc, n, rfl, hw⟩ := h i hi
    exact ⟨n, i64_of_wf hw, b, o, rfl, by have := hc 0 (by omega); simpa using this⟩)
  exact ⟨a, cap, l, rfl, hn, Nat.le_trans hl.1 hl.2, fun i hi => (hp i hi).2, fun x hx => by
    obtain ⟨i, hi, rfl⟩ := List.mem_iff_getElem.1 hx
    exact (hp i hi).1⟩
end Go.Proofs.Ytmopadnkjlodnaa
namespace Go.Proofs.Ytmopadnkjlodnaa.meanRangesDone
open Go.ChangeShapes Go.WideShapes Go.ChangeAt Go.RowKit
theorem own : ownKnob Try.prog.godebug = none := by kernel_rfl
theorem laidOut : laidOutB Try.prog = true := by kernel_rfl
set_option maxRecDepth 100000 in
set_option maxHeartbeats 2000000 in
theorem lifted (os : Os) (started : os.Started) (H : Type) (enc : TypeId × Value → H) :
    ReturnsInHanded {} Try.checked os 5 .any (Rows.meanRangesSpec.pre6 enc Try.prog Try.f5 Rows.meanRangesRow.domain false) (Rows.meanRangesSpec.post enc Try.prog Try.f5 false true false false) := by
  refine returnsInHanded_of_change (C := Try.checked) own started (by kernel_rfl) Try.func5
    (ChangeSpec.witness6 (enc := enc) (C := Try.checked) false ⟨#[], #[.agg #[.int .i64 0, .int .i64 0, .int .i64 0, .int .i64 0, .int .i64 0, .int .i64 0, .int .i64 0, .int .i64 0, .int .i64 0, .int .i64 0, .int .i64 0, .int .i64 0]], []⟩ 8 (by kernel_rfl) (by kernel_rfl) (by kernel_rfl) (by kernel_rfl)) ?_
  intro W base args ds gs before hval0 hW hcnd _
  have hval : ∀ (j : Nat) t v, Try.f5.params[j]? = some t → args[j]? = some v → Value.okWide Try.prog W .any base t v := hval0
  have hW' := hW
  obtain ⟨p, q, hA0, hV, rfl, hfz, hnd⟩ := hW
  have hA : DataW.TrodAll enc Try.prog W 0 (fun _ => true) true Try.f5.params.toList args.toList ds p := hA0
  rw [Try.params5] at hA hval
  obtain ⟨v0, vs0, d0, ds0, p0, q0, hargs, rfl, rfl, h0, r0⟩ := trodAll_cons hA
  obtain ⟨rfl, rfl, rfl⟩ := trodAll_nil r0
  obtain rfl : args = #[v0] := by cases args; simp_all
  obtain ⟨rfl, rfl⟩ := trodVars_none hV
  have k0 := h0
  have lt0 : ∀ x ∈ p0, x.block < W.heap.size := by obtain ⟨m, hm⟩ := h0; exact DataW.trod_lt m _ _ _ hm
  have s0 := sat_arg (f := 9) (s := .pair (.int .i64) (.pair (.int .i64) (.pair (.int .i64) (.pair (.int .i64) (.pair (.pair (.int .i64) (.pair (.int .i64) (.nil))) (.pair (.pair (.int .i64) (.pair (.int .i64) (.nil))) (.pair (.int .i64) (.pair (.int .i64) (.pair (.int .i64) (.pair (.int .i64) (.nil))))))))))) (by kernel_rfl) h0
  obtain ⟨cs0, rfl, hcs0⟩ := okWide_struct Try.underlying55 (hval 0 55 v0 rfl rfl)
  obtain ⟨_, _, e0, ⟨z0, rfl, -⟩, _, _, rfl, ⟨z1, rfl, -⟩, _, _, rfl, ⟨z2, rfl, -⟩, _, _, rfl, ⟨z3, rfl, -⟩, _, _, rfl, ⟨_, _, rfl, ⟨z4, rfl, -⟩, _, _, rfl, ⟨z5, rfl, -⟩, rfl⟩, _, _, rfl, ⟨_, _, rfl, ⟨z6, rfl, -⟩, _, _, rfl, ⟨z7, rfl, -⟩, rfl⟩, _, _, rfl, ⟨z8, rfl, -⟩, _, _, rfl, ⟨z9, rfl, -⟩, _, _, rfl, ⟨za, rfl, -⟩, _, _, rfl, ⟨zb, rfl, -⟩, rfl⟩ := s0
  obtain rfl : cs0 = #[.int .i64 z0, .int .i64 z1, .int .i64 z2, .int .i64 z3, .int .i64 z4, .int .i64 z5, .int .i64 z6, .int .i64 z7, .int .i64 z8, .int .i64 z9, .int .i64 za, .int .i64 zb] := by
    have : (Value.agg cs0).cells.toList = cs0.toList := rfl
    rw [this] at e0
    cases cs0; simpa using e0
  clear hA0 hval0
  refine (law_MeanRanges z0 z1 z2 z3 z4 z5 z6 z7 z8 z9 za zb W).mono fun e W' ⟨he, bel⟩ => ?_
  subst he
  exact ⟨_, rfl, _, _, _, [], _, [], hW', trodAll_mk1 (shut_bool Try.underlying4 _), (trodAll_cons_mk (Below.trod laidOut (by kernel_rfl) (of_decide_eq_true (by kernel_rfl)) k0 bel lt0) trodAll_mk0), rfl, Below.frame bel _, fun h => by cases h⟩
theorem over : Rows.meanRangesRow.holds Try.pinned (OpenSpec.ofChange Rows.meanRangesSpec) :=
  OpenClaim.holds_of_wide 5 Try.f5 rfl rfl rfl rfl rfl rfl rfl ⟨rfl, rfl, rfl, rfl, rfl⟩ rfl rfl rfl rfl rfl (by kernel_rfl) Try.func5 (by kernel_rfl)
    (of_decide_eq_true (by kernel_rfl)) (by unfold Func.isWrapper; first | (rw [if_pos (by decide +kernel)]; kernel_rfl) | (rw [if_neg (by decide +kernel)]; exact ⟨rfl, rfl⟩))
    (fun os started H enc _ => lifted os started H enc)
/-- The statement. -/
theorem proved : Rows.MeanRangesSaid := over
#print axioms proved
end Go.Proofs.Ytmopadnkjlodnaa.meanRangesDone
