/-
  The reference of chapter 6: Average.
-/
import Derived.Test.YtmopadnkjlodnaaPlb
import Derived.Test.YtmopadnkjlodnaaMav
namespace Go.Proofs.Ytmopadnkjlodnaa
open Go.RowKit Go.BigFrame
attribute [local go_sem] Oper.semAt_some Later.cell Later.frozen
set_option maxRecDepth 100000 in
set_option maxHeartbeats 4000000 in
theorem ref_Lowest (n d : Int) (w : World) (hn : 0 ≤ n ∧ n ≤ 3000000) (hd : 0 < d ∧ d ≤ 1000000) : Calls Try.prog 64 #[.int .i64 n, .int .i64 d] w fun e w' => e = .returned (fracS n d).agg ∧ Ext w w' := by
  go_enter Try.func64, Try.ntmps64
  go_wp2
  obtain ⟨w1, hw1⟩ : ∃ y, y = w.alloc (.cells #[.int .i64 0, .int .i64 0] 57) := ⟨_, rfl⟩
  rw [← hw1]
  have HX1 : Hid (Ext w w1) := Lib.hid (by rw [hw1]; exact (Ext.refl w).alloc _)
  have HB1 : Hid (Blk w1 w.heap.size #[.int .i64 0, .int .i64 0]) := Lib.hid (by rw [hw1]; exact Blk.new _ _ _)
  have HN := Lib.hid hn
  have HD := Lib.hid hd
  clear hw1 hn hd
  go_loopw [5, 6] (fun a b wr => ∃ x y : Int, a = .int .i64 x ∧ b = .int .i64 y ∧ (0 ≤ x ∧ x ≤ 3000000) ∧ (0 ≤ y ∧ y ≤ 1000000) ∧ (0 < x ∨ 0 < y) ∧ Int.gcd x y = Int.gcd n d ∧ Ext w1 wr) (fun _ b _ => (intOf b).toNat)
  case atStart => exact ⟨n, d, rfl, rfl, HN.out, ⟨by have := HD.out; omega, HD.out.2⟩, .inr HD.out.1, rfl, Ext.refl w1⟩
  case round =>
    obtain ⟨x, y, rfl, rfl, hx, hy, hp, hg, hw⟩ := hrel
    have HXX := Lib.hid hx
    have HYY := Lib.hid hy
    have HPP := Lib.hid hp
    have HGG := Lib.hid hg
    have HWW := Lib.hid hw
    clear hx hy hp hg hw
    by_cases hlt : 0 < y
    · have h0 : ¬ y = 0 := by omega
      go_upto_region 3 with fail
      refine wp_region_later (by kernel_rfl) (by kernel_rfl) ?_
      repeat (go_big_quiet_step (fail))
      refine wpQuiet_nil ?_
      intro w3 hw3
      obtain ⟨⟨w3, hx3⟩, rfl⟩ := hw3
      have HX3 := Lib.hid (HWW.out.trans hx3)
      clear hx3
      go_wp2
      go_roundw
      case rel =>
        have hb := tmod_bounds HXX.out.1 hlt
        have := HYY.out
        exact ⟨y, _, rfl, rfl, ⟨by omega, by omega⟩, ⟨hb.1, by omega⟩, .inl hlt, (gcd_step HXX.out.1 hlt).trans HGG.out, HX3.out⟩
      case measure =>
        have hb := tmod_bounds HXX.out.1 hlt
        simp [intOf]
        omega
    · have hy0 : y = 0 := by have := HYY.out; omega
      have hx0 : 0 < x := by have := HPP.out; omega
      have hne : ¬ x = 0 := by omega
      have hgx : (Int.gcd n d : Int) = x := by
        rw [← HGG.out, hy0, Int.gcd_zero_right]
        omega
      have hv : (fracS n d).agg = .agg #[.int .i64 (n.tdiv x), .int .i64 (d.tdiv x)] := by unfold fracS Fra.agg; simp only; rw [hgx]
      have hb1 := tdiv_bounds HN.out.1 hx0
      have hb2 := tdiv_bounds (Int.le_of_lt HD.out.1) hx0
      have hi1 : wrap64 (n.tdiv x) = n.tdiv x := wrap64_in' ⟨by omega, by have := HN.out; omega⟩
      have hi2 : wrap64 (d.tdiv x) = d.tdiv x := wrap64_in' ⟨by omega, by have := HD.out; omega⟩
      have HV := Lib.hid hv
      have HBR := Lib.hid (HB1.out.ext HWW.out)
      have HXF := Lib.hid (HX1.out.trans HWW.out)
      clear hb1 hb2 hgx hv hx0
      subst hy0
      have HI1 := Lib.hid hi1
      have HI2 := Lib.hid hi2
      clear hi1 hi2
      obtain ⟨KB, hK⟩ : ∃ y, y = w.heap.size := ⟨_, rfl⟩
      rw [← hK] at HBR ⊢
      have HK := Lib.hid hK
      have hk7 : ∀ k : Nat, (k == 7) = true → k < 8 := by
        intro k hk
        have : k = 7 := by simpa using hk
        omega
      clear hK
      go_upto_region 4 with fail
      refine wp_region_lat (by kernel_rfl) (fun b _ => b = KB) (fun k => k == 7) (fun _ _ => True) (fun L _ W => bif L 7 then Blk W KB #[.int .i64 (wrap64 (n.tdiv x)), .int .i64 (wrap64 (d.tdiv x))] else Blk W KB #[.int .i64 0, .int .i64 0]) (by kernel_rfl) (fun k hk => hk7 k hk)
        (fun L L' u w' h hg => by have e := h 7 rfl; show (bif L' 7 then _ else _); rw [e]; exact hg) (fun L u a b h hx => by revert h; show (bif L 7 then _ else _) → (bif L 7 then _ else _); cases L 7 <;> exact fun h => Blk.ext h hx) (fun _ => undef) (fun _ _ => trivial) (HBR.out.ext (Ext.refl wr).drew) ?_
      intro T hT hne2 u hu
      clear hu
      refine lx_next 7 (by rfl) (by decide) ?_
      dsimp only [List.take, List.drop]
      repeat (go_big_quiet_step (fail))
      refine wpQuiet_nil ?_
      refine lx_loud (by rfl) (by kernel_rfl) ?_ (fun K hK => ?_)
      · intro L w4 hL hd hcl hC hs
        obtain ⟨y, rfl⟩ := hC
        simp only [hL, cond_false] at hs
        have r0 := hs.cell 0 (v := .int .i64 0) rfl
        have r1 := hs.cell 1 (v := .int .i64 0) rfl
        have rf0 := hs.frozen 0
        have rf1 := hs.frozen 1
        have rl := hs.lt
        have HS := Lib.hid hs
        clear hs
        go_wp2
        exact ⟨⟨y.chgd (two_chg (· = KB) y.world rfl _ _) (fun k hk => .inr fun _ => hk), rfl⟩, two_set HS.out _ _⟩
      go_simp
      with_reducible refine hK _ ?_
      clear hK K
      refine lx_nil ?_
      intro y hs
      simp only [cond_true] at hs
      have r0 := hs.cell 0 (v := .int .i64 (wrap64 (n.tdiv x))) rfl
      have r1 := hs.cell 1 (v := .int .i64 (wrap64 (d.tdiv x))) rfl
      have HC : Hid (Ext w y.world) := Lib.hid (Chg.to_ext HXF.out (y.chg.mono (T := (· = KB)) (by rintro q - ⟨_, e⟩; exact e)) (by rintro i rfl; rw [HK.out]; exact Nat.le_refl _))
      clear hs hT hne2
      generalize y.world = w9 at *
      go_wp2
      refine bodyPost_ret (v := .agg #[.int .i64 (wrap64 (n.tdiv x)), .int .i64 (wrap64 (d.tdiv x))]) (by simp [results, Try.results64, go_sem, r0, r1]) rfl ⟨by rw [HV.out, HI1.out, HI2.out], HC.out⟩
end Go.Proofs.Ytmopadnkjlodnaa
namespace Go.Proofs.Ytmopadnkjlodnaa
open Go.RowKit Go.BigFrame
attribute [local go_sem] Oper.semAt_some Later.cell Later.frozen
def avrS (t : Tot) : Ran × Int :=
  if inB t.points 0 1000000 = false ∨ inB t.darts.lo 0 t.darts.hi = false ∨ 1000000 < t.darts.hi then (ran0, 2) else if t.darts.lo = 0 then (ran0, 7) else (⟨fracS (3 * t.points) t.darts.hi, fracS (3 * t.points) t.darts.lo⟩, 0)
set_option maxRecDepth 100000 in
set_option maxHeartbeats 4000000 in
theorem ref_Average (t : Tot) (w : World) : Calls Try.prog 28 #[t.agg] w fun e w' => e = .returned (.tuple #[(avrS t).1.agg, .int .i64 (avrS t).2]) ∧ Ext w w' := by
  obtain ⟨av, hav⟩ : ∃ c, avrS t = c := ⟨_, rfl⟩
  rw [hav]
  have HAV := Lib.hid hav
  clear hav
  obtain ⟨legs, won, visits, points, ⟨dl, dh⟩, ⟨tl, th⟩, tons, highs, tops, best⟩ := t
  unfold Tot.agg
  simp only
  go_enter Try.func28, Try.ntmps28
  go_wp2_with fail
  refine (ref_In points 0 1000000 _).mono ?_
  rintro e w1 ⟨rfl, hx1⟩
  have hx := (((Ext.refl w).alloc _).alloc _).trans hx1
  have hb : Blk w1 w.heap.size #[.int .i64 legs, .int .i64 won, .int .i64 visits, .int .i64 points, .int .i64 dl, .int .i64 dh, .int .i64 tl, .int .i64 th, .int .i64 tons, .int .i64 highs, .int .i64 tops, .int .i64 best] := ((Blk.new _ _ _).alloc _).ext hx1
  have hr : Blk w1 (w.heap.size + 1) #[.int .i64 0, .int .i64 0, .int .i64 0, .int .i64 0] := (Blk.at _ (by simp)).ext hx1
  obtain ⟨KB, hKB⟩ : ∃ y, y = w.heap.size + 1 := ⟨_, rfl⟩
  rw [← hKB] at hr ⊢
  have HX := Lib.hid hx
  have HB := Lib.hid hb
  have HR := Lib.hid hr
  have HKB := Lib.hid (show w.heap.size ≤ KB ∧ KB ≠ w.heap.size by omega)
  clear hx hb hr hx1 hKB
  have r0 := HR.out.cell 0 (v := .int .i64 0) rfl
  have r1 := HR.out.cell 1 (v := .int .i64 0) rfl
  have r2 := HR.out.cell 2 (v := .int .i64 0) rfl
  have r3 := HR.out.cell 3 (v := .int .i64 0) rfl
  have rl := HR.out.lt
  have f0 := HR.out.frozen 0
  have f1 := HR.out.frozen 1
  have f2 := HR.out.frozen 2
  have f3 := HR.out.frozen 3
  cases h1 : inB points 0 1000000
  · have e : av = (ran0, 2) := by rw [← HAV.out]; simp [avrS, h1]
    have HE := Lib.hid e
    clear e
    go_wp2
    have hq := four_set HR.out (.int .i64 0) (.int .i64 0) (.int .i64 0) (.int .i64 0)
    have hX' := Chg.to_ext HX.out (four_chg (· = KB) w1 rfl (.int .i64 0) (.int .i64 0) (.int .i64 0) (.int .i64 0)) (by rintro i rfl; exact HKB.out.1)
    obtain ⟨W, hW⟩ : ∃ y, y = ((((w1.setCell ⟨KB, 0, none⟩ (.int .i64 0)).setCell ⟨KB, 1, none⟩ (.int .i64 0)).setCell ⟨KB, 2, none⟩ (.int .i64 0)).setCell ⟨KB, 3, none⟩ (.int .i64 0)) := ⟨_, rfl⟩
    rw [← hW] at hq hX' ⊢
    have q0 := hq.cell 0 (v := .int .i64 0) rfl
    have q1 := hq.cell 1 (v := .int .i64 0) rfl
    have q2 := hq.cell 2 (v := .int .i64 0) rfl
    have q3 := hq.cell 3 (v := .int .i64 0) rfl
    refine bodyPost_ret (v := .tuple #[.agg #[.int .i64 0, .int .i64 0, .int .i64 0, .int .i64 0], .int .i64 2]) (by simp [results, Try.results28, go_sem, q0, q1, q2, q3]) rfl ⟨by rw [HE.out]; rfl, hX'⟩
  clear r0 r1 r2 r3 rl f0 f1 f2 f3
  have b3 := HB.out.cell 3 (v := .int .i64 points) rfl
  have b4 := HB.out.cell 4 (v := .int .i64 dl) rfl
  have b5 := HB.out.cell 5 (v := .int .i64 dh) rfl
  have bl := HB.out.lt
  go_wp2_with fail
  refine (ref_In dl 0 dh _).mono ?_
  rintro e w2 ⟨rfl, hx2⟩
  have HX2 := Lib.hid (HX.out.trans hx2)
  have HB2 := Lib.hid (HB.out.ext hx2)
  have HR2 := Lib.hid (HR.out.ext hx2)
  clear b3 b4 b5 bl hx2
  have r0 := HR2.out.cell 0 (v := .int .i64 0) rfl
  have r1 := HR2.out.cell 1 (v := .int .i64 0) rfl
  have r2 := HR2.out.cell 2 (v := .int .i64 0) rfl
  have r3 := HR2.out.cell 3 (v := .int .i64 0) rfl
  have rl := HR2.out.lt
  have f0 := HR2.out.frozen 0
  have f1 := HR2.out.frozen 1
  have f2 := HR2.out.frozen 2
  have f3 := HR2.out.frozen 3
  have b3 := HB2.out.cell 3 (v := .int .i64 points) rfl
  have b4 := HB2.out.cell 4 (v := .int .i64 dl) rfl
  have b5 := HB2.out.cell 5 (v := .int .i64 dh) rfl
  have bl := HB2.out.lt
  cases h2 : inB dl 0 dh
  · have e : av = (ran0, 2) := by rw [← HAV.out]; simp [avrS, h2]
    have HE := Lib.hid e
    clear e
    go_wp2
    have hq := four_set HR2.out (.int .i64 0) (.int .i64 0) (.int .i64 0) (.int .i64 0)
    have hX' := Chg.to_ext HX2.out (four_chg (· = KB) w2 rfl (.int .i64 0) (.int .i64 0) (.int .i64 0) (.int .i64 0)) (by rintro i rfl; exact HKB.out.1)
    obtain ⟨W, hW⟩ : ∃ y, y = ((((w2.setCell ⟨KB, 0, none⟩ (.int .i64 0)).setCell ⟨KB, 1, none⟩ (.int .i64 0)).setCell ⟨KB, 2, none⟩ (.int .i64 0)).setCell ⟨KB, 3, none⟩ (.int .i64 0)) := ⟨_, rfl⟩
    rw [← hW] at hq hX' ⊢
    have q0 := hq.cell 0 (v := .int .i64 0) rfl
    have q1 := hq.cell 1 (v := .int .i64 0) rfl
    have q2 := hq.cell 2 (v := .int .i64 0) rfl
    have q3 := hq.cell 3 (v := .int .i64 0) rfl
    refine bodyPost_ret (v := .tuple #[.agg #[.int .i64 0, .int .i64 0, .int .i64 0, .int .i64 0], .int .i64 2]) (by simp [results, Try.results28, go_sem, q0, q1, q2, q3]) rfl ⟨by rw [HE.out]; rfl, hX'⟩
  by_cases h4 : 1000000 < dh
  · have e : av = (ran0, 2) := by rw [← HAV.out]; simp [avrS, h4]
    have HE := Lib.hid e
    clear e
    go_wp2
    have hq := four_set HR2.out (.int .i64 0) (.int .i64 0) (.int .i64 0) (.int .i64 0)
    have hX' := Chg.to_ext HX2.out (four_chg (· = KB) w2 rfl (.int .i64 0) (.int .i64 0) (.int .i64 0) (.int .i64 0)) (by rintro i rfl; exact HKB.out.1)
    obtain ⟨W, hW⟩ : ∃ y, y = ((((w2.setCell ⟨KB, 0, none⟩ (.int .i64 0)).setCell ⟨KB, 1, none⟩ (.int .i64 0)).setCell ⟨KB, 2, none⟩ (.int .i64 0)).setCell ⟨KB, 3, none⟩ (.int .i64 0)) := ⟨_, rfl⟩
    rw [← hW] at hq hX' ⊢
    have q0 := hq.cell 0 (v := .int .i64 0) rfl
    have q1 := hq.cell 1 (v := .int .i64 0) rfl
    have q2 := hq.cell 2 (v := .int .i64 0) rfl
    have q3 := hq.cell 3 (v := .int .i64 0) rfl
    refine bodyPost_ret (v := .tuple #[.agg #[.int .i64 0, .int .i64 0, .int .i64 0, .int .i64 0], .int .i64 2]) (by simp [results, Try.results28, go_sem, q0, q1, q2, q3]) rfl ⟨by rw [HE.out]; rfl, hX'⟩
  by_cases h3 : dl = 0
  · have e : av = (ran0, 7) := by subst h3; rw [← HAV.out]; simp [avrS, h1, h2, h4]
    have HE := Lib.hid e
    clear e
    subst h3
    go_wp2
    have hq := four_set HR2.out (.int .i64 0) (.int .i64 0) (.int .i64 0) (.int .i64 0)
    have hX' := Chg.to_ext HX2.out (four_chg (· = KB) w2 rfl (.int .i64 0) (.int .i64 0) (.int .i64 0) (.int .i64 0)) (by rintro i rfl; exact HKB.out.1)
    obtain ⟨W, hW⟩ : ∃ y, y = ((((w2.setCell ⟨KB, 0, none⟩ (.int .i64 0)).setCell ⟨KB, 1, none⟩ (.int .i64 0)).setCell ⟨KB, 2, none⟩ (.int .i64 0)).setCell ⟨KB, 3, none⟩ (.int .i64 0)) := ⟨_, rfl⟩
    rw [← hW] at hq hX' ⊢
    have q0 := hq.cell 0 (v := .int .i64 0) rfl
    have q1 := hq.cell 1 (v := .int .i64 0) rfl
    have q2 := hq.cell 2 (v := .int .i64 0) rfl
    have q3 := hq.cell 3 (v := .int .i64 0) rfl
    refine bodyPost_ret (v := .tuple #[.agg #[.int .i64 0, .int .i64 0, .int .i64 0, .int .i64 0], .int .i64 7]) (by simp [results, Try.results28, go_sem, q0, q1, q2, q3]) rfl ⟨by rw [HE.out]; rfl, hX'⟩
  have e : av = (⟨fracS (3 * points) dh, fracS (3 * points) dl⟩, 0) := by rw [← HAV.out]; simp [avrS, h1, h2, h3, h4]
  have HE := Lib.hid e
  have hpt : 0 ≤ points ∧ points ≤ 1000000 := by simpa [inB] using h1
  have hsp0 : 0 ≤ dl ∧ dl ≤ dh := by simpa [inB] using h2
  have hsp : 0 < dl ∧ dl ≤ dh ∧ dh ≤ 1000000 := by omega
  have hw : wrap64 (3 * points) = 3 * points := wrap64_in' ⟨by omega, by omega⟩
  clear e
  go_upto_region 5 with fail
  have HF1 := Lib.hid (fun W => ref_Lowest (3 * points) dh W ⟨by omega, by omega⟩ ⟨by omega, hsp.2.2⟩)
  have HF2 := Lib.hid (fun W => ref_Lowest (3 * points) dl W ⟨by omega, by omega⟩ ⟨hsp.1, by omega⟩)
  unfold Fra.agg at HF1 HF2
  have HEE : Hid (av = (⟨fracS (3 * points) dh, fracS (3 * points) dl⟩, 0)) := HE
  generalize fracS (3 * points) dh = F1 at *
  generalize fracS (3 * points) dl = F2 at *
  have hne : ¬ (w.heap.size = KB) := fun e => HKB.out.2 e.symm
  have y4 : ∀ y : Lat (fun b _ => b = KB) w2, y.world.cell? ⟨w.heap.size, 4, none⟩ = some (.int .i64 dl) := fun y => (HB2.out.chg y.chg (by rintro ⟨_, e⟩; exact hne e)).cell 4 rfl
  have y5 : ∀ y : Lat (fun b _ => b = KB) w2, y.world.cell? ⟨w.heap.size, 5, none⟩ = some (.int .i64 dh) := fun y => (HB2.out.chg y.chg (by rintro ⟨_, e⟩; exact hne e)).cell 5 rfl
  have y3 : ∀ y : Lat (fun b _ => b = KB) w2, y.world.cell? ⟨w.heap.size, 3, none⟩ = some (.int .i64 points) := fun y => (HB2.out.chg y.chg (by rintro ⟨_, e⟩; exact hne e)).cell 3 rfl
  have hk7 : ∀ k : Nat, (k == 15) = true → k < 17 := by
    intro k hk
    have : k = 15 := by simpa using hk
    omega
  refine wp_region_lat (by kernel_rfl) (fun b _ => b = KB) (fun k => k == 15) (fun _ _ => True) (fun L _ W => bif L 15 then Blk W KB #[.int .i64 F1.n, .int .i64 F1.d, .int .i64 F2.n, .int .i64 F2.d] else Blk W KB #[.int .i64 0, .int .i64 0, .int .i64 0, .int .i64 0]) (by kernel_rfl) (fun k hk => hk7 k hk)
    (fun L L' u w' h hg => by have e := h 15 rfl; show (bif L' 15 then _ else _); rw [e]; exact hg) (fun L u a b h hx => by revert h; show (bif L 15 then _ else _) → (bif L 15 then _ else _); cases L 15 <;> exact fun h => Blk.ext h hx) (fun _ => undef) (fun _ _ => trivial) (HR2.out.ext (Ext.refl w2).drew) ?_
  intro T hT hne2 u hu
  clear hu b3 b4 b5 r0 r1 r2 r3 f0 f1 f2 f3
  refine lx_next 15 (by rfl) (by decide) ?_
  dsimp only [List.take, List.drop]
  repeat (go_big_quiet_step (first | with_reducible refine Calls.lat hT (HF1.out _) | with_reducible refine Calls.lat hT (HF2.out _)))
  refine wpQuiet_nil ?_
  refine lx_loud (by rfl) (by kernel_rfl) ?_ (fun K hK => ?_)
  · intro L w4 hL hd hcl hC hs
    obtain ⟨y, rfl⟩ := hC
    simp only [hL, cond_false] at hs
    have r0 := hs.cell 0 (v := .int .i64 0) rfl
    have r1 := hs.cell 1 (v := .int .i64 0) rfl
    have r2 := hs.cell 2 (v := .int .i64 0) rfl
    have r3 := hs.cell 3 (v := .int .i64 0) rfl
    have rf0 := hs.frozen 0
    have rf1 := hs.frozen 1
    have rf2 := hs.frozen 2
    have rf3 := hs.frozen 3
    have rl := hs.lt
    have HS := Lib.hid hs
    clear hs
    go_wp2
    exact ⟨⟨y.chgd (four_chg (· = KB) y.world rfl _ _ _ _) (fun k hk => .inr fun _ => hk), rfl⟩, four_set HS.out _ _ _ _⟩
  go_simp
  with_reducible refine hK _ ?_
  clear hK K
  refine lx_next 1 (by rfl) (by decide) ?_
  dsimp only [List.take, List.drop]
  repeat (go_big_quiet_step (fail))
  refine wpQuiet_nil ?_
  refine lx_nil ?_
  intro y hs
  simp only [cond_true] at hs
  have q0 := hs.cell 0 (v := .int .i64 F1.n) rfl
  have q1 := hs.cell 1 (v := .int .i64 F1.d) rfl
  have q2 := hs.cell 2 (v := .int .i64 F2.n) rfl
  have q3 := hs.cell 3 (v := .int .i64 F2.d) rfl
  have HC : Hid (Ext w y.world) := Lib.hid (Chg.to_ext HX2.out (y.chg.mono (T := (· = KB)) (by rintro q - ⟨_, e⟩; exact e)) (by rintro i rfl; exact HKB.out.1))
  clear hs hT hne2 y3 y4 y5
  generalize y.world = w9 at *
  go_wp2
  refine bodyPost_ret (v := .tuple #[.agg #[.int .i64 F1.n, .int .i64 F1.d, .int .i64 F2.n, .int .i64 F2.d], .int .i64 0]) (by simp [results, Try.results28, go_sem, q0, q1, q2, q3]) rfl ⟨by rw [HEE.out]; rfl, HC.out⟩
end Go.Proofs.Ytmopadnkjlodnaa
