/-
  Plain: the reference's average is the program's.
-/
import Derived.Test.YtmopadnkjlodnaaMra
namespace Go.Proofs.Ytmopadnkjlodnaa
open Go.RowKit Go.BigFrame
attribute [local go_sem] Oper.semAt_some Later.cell Later.frozen
def inB (x lo hi : Int) : Bool := decide (lo ≤ x) && decide (x ≤ hi)
theorem ref_In (x lo hi : Int) (w : World) : Calls Try.prog 23 #[.int .i64 x, .int .i64 lo, .int .i64 hi] w fun e w' => e = .returned (.bool (inB x lo hi)) ∧ Ext w w' := by
  go_enter Try.func23, Try.ntmps23
  by_cases h1 : lo ≤ x <;> by_cases h2 : x ≤ hi
  all_goals
    go_wp2
    go_ret
    exact ⟨ret_bool (by simp [inB, *]), Ext.refl w⟩
def lesW (a b : Fra) : Bool := decide (wrap64 (a.n * b.d) < wrap64 (b.n * a.d))
theorem ref_Less (an ad bn bd : Int) (w : World) : Calls Try.prog 34 #[.agg #[.int .i64 an, .int .i64 ad], .agg #[.int .i64 bn, .int .i64 bd]] w fun e w' => e = .returned (.bool (lesW ⟨an, ad⟩ ⟨bn, bd⟩)) ∧ Ext w w' := by
  go_enter Try.func34, Try.ntmps34
  go_wp2
  refine bodyPost_ret (v := .bool (lesW ⟨an, ad⟩ ⟨bn, bd⟩)) (by simp [results, Try.results34, go_sem, lesW]) rfl ⟨rfl, ((Ext.refl w).alloc _).alloc _⟩
def ranR (r : Ran) : Bool := inB r.lo.n 0 3000000 && (inB r.hi.n 0 3000000 && (inB r.lo.d 1 1000000 && (inB r.hi.d 1 1000000 && !lesW r.hi r.lo)))
set_option maxHeartbeats 4000000 in
theorem ref_Range (ln ld hn hd : Int) (w : World) : Calls Try.prog 33 #[.agg #[.int .i64 ln, .int .i64 ld, .int .i64 hn, .int .i64 hd]] w fun e w' => e = .returned (.bool (ranR ⟨⟨ln, ld⟩, ⟨hn, hd⟩⟩)) ∧ Ext w w' := by
  obtain ⟨rb, hrb⟩ : ∃ c, ranR ⟨⟨ln, ld⟩, ⟨hn, hd⟩⟩ = c := ⟨_, rfl⟩
  rw [hrb]
  have HRB := Lib.hid hrb
  clear hrb
  go_enter Try.func33, Try.ntmps33
  go_wp2_with fail
  refine (ref_In ln 0 3000000 _).mono ?_
  rintro e w1 ⟨rfl, hx1⟩
  have HX1 := Lib.hid (((Ext.refl w).alloc _).trans hx1)
  have hb1 : Blk w1 w.heap.size #[.int .i64 ln, .int .i64 ld, .int .i64 hn, .int .i64 hd] := (Blk.new _ _ _).ext hx1
  clear hx1
  have HB1 := Lib.hid hb1
  have b0 := hb1.cell 0 (v := .int .i64 ln) rfl
  have b1 := hb1.cell 1 (v := .int .i64 ld) rfl
  have b2 := hb1.cell 2 (v := .int .i64 hn) rfl
  have b3 := hb1.cell 3 (v := .int .i64 hd) rfl
  have bl := hb1.lt
  clear hb1
  cases h1 : inB ln 0 3000000
  · have e : rb = false := by rw [← HRB.out]; simp [ranR, h1]
    subst e
    go_wp2
    refine bodyPost_ret (v := .bool false) (by simp [results, Try.results33, go_sem]) rfl ⟨rfl, HX1.out⟩
  go_wp2_with fail
  refine (ref_In hn 0 3000000 _).mono ?_
  rintro e w2 ⟨rfl, hx2⟩
  have HX2 := Lib.hid (HX1.out.trans hx2)
  have hb2 := HB1.out.ext hx2
  clear hx2 b0 b1 b2 b3 bl
  have HB2 := Lib.hid hb2
  have b0 := hb2.cell 0 (v := .int .i64 ln) rfl
  have b1 := hb2.cell 1 (v := .int .i64 ld) rfl
  have b2 := hb2.cell 2 (v := .int .i64 hn) rfl
  have b3 := hb2.cell 3 (v := .int .i64 hd) rfl
  have bl := hb2.lt
  clear hb2
  cases h2 : inB hn 0 3000000
  · have e : rb = false := by rw [← HRB.out]; simp [ranR, h1, h2]
    subst e
    go_wp2
    refine bodyPost_ret (v := .bool false) (by simp [results, Try.results33, go_sem]) rfl ⟨rfl, HX2.out⟩
  go_wp2_with fail
  refine (ref_In ld 1 1000000 _).mono ?_
  rintro e w3 ⟨rfl, hx3⟩
  have HX3 := Lib.hid (HX2.out.trans hx3)
  have hb3 := HB2.out.ext hx3
  clear hx3 b0 b1 b2 b3 bl
  have HB3 := Lib.hid hb3
  have b0 := hb3.cell 0 (v := .int .i64 ln) rfl
  have b1 := hb3.cell 1 (v := .int .i64 ld) rfl
  have b2 := hb3.cell 2 (v := .int .i64 hn) rfl
  have b3 := hb3.cell 3 (v := .int .i64 hd) rfl
  have bl := hb3.lt
  clear hb3
  cases h3 : inB ld 1 1000000
  · have e : rb = false := by rw [← HRB.out]; simp [ranR, h1, h2, h3]
    subst e
    go_wp2
    refine bodyPost_ret (v := .bool false) (by simp [results, Try.results33, go_sem]) rfl ⟨rfl, HX3.out⟩
  go_wp2_with fail
  refine (ref_In hd 1 1000000 _).mono ?_
  rintro e w4 ⟨rfl, hx4⟩
  have HX4 := Lib.hid (HX3.out.trans hx4)
  have hb4 := HB3.out.ext hx4
  clear hx4 b0 b1 b2 b3 bl
  have HB4 := Lib.hid hb4
  have b0 := hb4.cell 0 (v := .int .i64 ln) rfl
  have b1 := hb4.cell 1 (v := .int .i64 ld) rfl
  have b2 := hb4.cell 2 (v := .int .i64 hn) rfl
  have b3 := hb4.cell 3 (v := .int .i64 hd) rfl
  have bl := hb4.lt
  clear hb4
  cases h4 : inB hd 1 1000000
  · have e : rb = false := by rw [← HRB.out]; simp [ranR, h1, h2, h3, h4]
    subst e
    go_wp2
    refine bodyPost_ret (v := .bool false) (by simp [results, Try.results33, go_sem]) rfl ⟨rfl, HX4.out⟩
  go_wp2_with fail
  refine (ref_Less hn hd ln ld _).mono ?_
  rintro e w5 ⟨rfl, hx5⟩
  have HX5 := Lib.hid (HX4.out.trans hx5)
  have e : rb = !lesW ⟨hn, hd⟩ ⟨ln, ld⟩ := by rw [← HRB.out]; simp [ranR, h1, h2, h3, h4]
  have HE := Lib.hid e
  clear hx5 e
  go_wp2
  refine bodyPost_ret (v := .bool rb) (by simp [results, Try.results33, go_sem, HE.out]) rfl ⟨rfl, HX5.out⟩
end Go.Proofs.Ytmopadnkjlodnaa
namespace Go.Proofs.Ytmopadnkjlodnaa
open Go.RowKit Go.BigFrame
theorem insm_one (lo hi x : Int) : ins lo hi [x] = inB x lo hi := by
  simp only [ins, out1, inB, List.any_cons, List.any_nil, Bool.or_false, Bool.not_or]
  by_cases h1 : lo ≤ x <;> by_cases h2 : x ≤ hi <;> simp [h1, h2] <;> omega
theorem ins_two (lo hi x y : Int) : ins lo hi [x, y] = (inB x lo hi && inB y lo hi) := by
  rw [← insm_one, ← insm_one]
  simp [ins]
theorem prod_bounds {a b : Int} (ha : inB a 0 3000000 = true) (hb : inB b 1 1000000 = true) : wrap64 (a * b) = a * b ∧ 0 ≤ a * b ∧ a * b ≤ 3000000000000 := by
  simp only [inB, Bool.and_eq_true, decide_eq_true_eq] at ha hb
  have h1 : 0 ≤ a * b := Int.mul_nonneg ha.1 (by omega)
  have h2 : a * b ≤ 3000000 * 1000000 := Int.mul_le_mul ha.2 hb.2 (by omega) (by omega)
  exact ⟨wrap64_in' ⟨by omega, by omega⟩, h1, by omega⟩
theorem cmp_less {a b : Fra} (ha : inB a.n 0 3000000 = true) (hb : inB b.n 0 3000000 = true) (hc : inB a.d 1 1000000 = true) (hd : inB b.d 1 1000000 = true) : cmpW a b = a.n * b.d - b.n * a.d ∧ lesW b a = decide (0 < cmpW a b) := by
  obtain ⟨e1, h1, h2⟩ := prod_bounds ha hd
  obtain ⟨e2, h3, h4⟩ := prod_bounds hb hc
  have e : cmpW a b = a.n * b.d - b.n * a.d := by
    unfold cmpW
    rw [e1, e2]
    exact wrap64_in' ⟨by omega, by omega⟩
  refine ⟨e, ?_⟩
  unfold lesW
  rw [e, e1, e2]
  by_cases h : b.n * a.d < a.n * b.d
  · rw [decide_eq_true h, decide_eq_true (by omega)]
  · rw [decide_eq_false h, decide_eq_false (by omega)]
theorem ranR_ranB (r : Ran) : ranR r = ranB r := by
  unfold ranR ranB
  rw [ins_two, ins_two]
  cases h1 : inB r.lo.n 0 3000000
  · rfl
  cases h2 : inB r.hi.n 0 3000000
  · rfl
  cases h3 : inB r.lo.d 1 1000000
  · rfl
  cases h4 : inB r.hi.d 1 1000000
  · rfl
  simp only [Bool.true_and]
  rw [(cmp_less h1 h2 h3 h4).2]
  by_cases h : 0 < cmpW r.lo r.hi
  · rw [decide_eq_true h, decide_eq_false (by omega)]; rfl
  · rw [decide_eq_false h, decide_eq_true (by omega)]; rfl
theorem ranB_parts {r : Ran} (h : ranB r = true) : inB r.lo.n 0 3000000 = true ∧ inB r.hi.n 0 3000000 = true ∧ inB r.lo.d 1 1000000 = true ∧ inB r.hi.d 1 1000000 = true := by
  unfold ranB at h
  rw [ins_two, ins_two] at h
  simp only [Bool.and_eq_true] at h
  exact ⟨h.1.1, h.1.2, h.2.1.1, h.2.1.2⟩
/-- Better's answer, by the reference. -/
theorem bet_ok {a b : Ran} (ha : ranR a = true) (hb : ranR b = true) : betR a b = .tuple #[.bool (lesW b.hi a.lo), .bool (lesW b.lo a.hi), .int .i64 0] := by
  rw [ranR_ranB] at ha hb
  obtain ⟨a1, a2, a3, a4⟩ := ranB_parts ha
  obtain ⟨b1, b2, b3, b4⟩ := ranB_parts hb
  unfold betR
  rw [ha, hb, (cmp_less a1 b2 a3 b4).2, (cmp_less a2 b1 a4 b3).2]
  rfl
theorem bet_bad {a b : Ran} (h : ranR a = false ∨ ranR b = false) : betR a b = .tuple #[.bool false, .bool false, .int .i64 2] := by
  rw [ranR_ranB, ranR_ranB] at h
  unfold betR
  rw [if_pos h]
end Go.Proofs.Ytmopadnkjlodnaa
namespace Go.Proofs.Ytmopadnkjlodnaa
open Go.RowKit Go.BigFrame
attribute [local go_sem] Oper.semAt_some Later.cell Later.frozen
set_option maxRecDepth 100000 in
set_option maxHeartbeats 4000000 in
theorem ref_Lowest (n d : Int) (w : World) (hn : 0 ≤ n ∧ n ≤ 3000000) (hd : 0 < d ∧ d ≤ 1000000) : Calls Try.prog 64 #[.int .i64 n, .int .i64 d] w fun e w' => e = .returned (fracS n d).agg ∧ Ext w w' := by
  go_enter Try.func64, Try.ntmps64
  go_wp2
  obtain ⟨w1, hw1⟩ : ∃ y, y = w.alloc (.cells #[.int .i64 0, .int .i64 0] 57) := ⟨_, rfl⟩
  rw [← hw1]
  have HX1 : Hid (Ext w w1) := Lib.hid (by rw [hw1]; exact (Ext.refl w).alloc _)
  have HB1 : Hid (Blk w1 w.heap.size #[.int .i64 0, .int .i64 0]) := Lib.hid (by rw [hw1]; exact Blk.new _ _ _)
  have HN := Lib.hid hn
  have HD := Lib.hid hd
  clear hw1 hn hd
  go_loopw [5, 6] (fun a b wr => ∃ x y : Int, a = .int .i64 x ∧ b = .int .i64 y ∧ (0 ≤ x ∧ x ≤ 3000000) ∧ (0 ≤ y ∧ y ≤ 1000000) ∧ (0 < x ∨ 0 < y) ∧ Int.gcd x y = Int.gcd n d ∧ Ext w1 wr) (fun _ b _ => (intOf b).toNat)
  case atStart => exact ⟨n, d, rfl, rfl, HN.out, ⟨by have := HD.out; omega, HD.out.2⟩, .inr HD.out.1, rfl, Ext.refl w1⟩
  case round =>
    obtain ⟨x, y, rfl, rfl, hx, hy, hp, hg, hw⟩ := hrel
    have HXX := Lib.hid hx
    have HYY := Lib.hid hy
    have HPP := Lib.hid hp
    have HGG := Lib.hid hg
    have HWW := Lib.hid hw
    clear hx hy hp hg hw
    by_cases hlt : 0 < y
    · have h0 : ¬ y = 0 := by omega
      go_upto_region 3 with fail
      refine wp_region_later (by kernel_rfl) (by kernel_rfl) ?_
      repeat (go_big_quiet_step (fail))
      refine wpQuiet_nil ?_
      intro w3 hw3
      obtain ⟨⟨w3, hx3⟩, rfl⟩ := hw3
      have HX3 := Lib.hid (HWW.out.trans hx3)
      clear hx3
      go_wp2
      go_roundw
      case rel =>
        have hb := tmod_bounds HXX.out.1 hlt
        have := HYY.out
        exact ⟨y, _, rfl, rfl, ⟨by omega, by omega⟩, ⟨hb.1, by omega⟩, .inl hlt, (gcd_step HXX.out.1 hlt).trans HGG.out, HX3.out⟩
      case measure =>
        have hb := tmod_bounds HXX.out.1 hlt
        simp [intOf]
        omega
    · have hy0 : y = 0 := by have := HYY.out; omega
      have hx0 : 0 < x := by have := HPP.out; omega
      have hne : ¬ x = 0 := by omega
      have hgx : (Int.gcd n d : Int) = x := by
        rw [← HGG.out, hy0, Int.gcd_zero_right]
        omega
      have hv : (fracS n d).agg = .agg #[.int .i64 (n.tdiv x), .int .i64 (d.tdiv x)] := by unfold fracS Fra.agg; simp only; rw [hgx]
      have hb1 := tdiv_bounds HN.out.1 hx0
      have hb2 := tdiv_bounds (Int.le_of_lt HD.out.1) hx0
      have hi1 : wrap64 (n.tdiv x) = n.tdiv x := wrap64_in' ⟨by omega, by have := HN.out; omega⟩
      have hi2 : wrap64 (d.tdiv x) = d.tdiv x := wrap64_in' ⟨by omega, by have := HD.out; omega⟩
      have HV := Lib.hid hv
      have HBR := Lib.hid (HB1.out.ext HWW.out)
      have HXF := Lib.hid (HX1.out.trans HWW.out)
      clear hb1 hb2 hgx hv hx0
      subst hy0
      have HI1 := Lib.hid hi1
      have HI2 := Lib.hid hi2
      clear hi1 hi2
      obtain ⟨KB, hK⟩ : ∃ y, y = w.heap.size := ⟨_, rfl⟩
      rw [← hK] at HBR ⊢
      have HK := Lib.hid hK
      have hk7 : ∀ k : Nat, (k == 7) = true → k < 8 := by
        intro k hk
        have : k = 7 := by simpa using hk
        omega
      clear hK
      go_upto_region 4 with fail
      refine wp_region_lat (by kernel_rfl) (fun b _ => b = KB) (fun k => k == 7) (fun _ _ => True) (fun L _ W => bif L 7 then Blk W KB #[.int .i64 (wrap64 (n.tdiv x)), .int .i64 (wrap64 (d.tdiv x))] else Blk W KB #[.int .i64 0, .int .i64 0]) (by kernel_rfl) (fun k hk => hk7 k hk)
        (fun L L' u w' h hg => by have e := h 7 rfl; show (bif L' 7 then _ else _); rw [e]; exact hg) (fun L u a b h hx => by revert h; show (bif L 7 then _ else _) → (bif L 7 then _ else _); cases L 7 <;> exact fun h => Blk.ext h hx) (fun _ => undef) (fun _ _ => trivial) (HBR.out.ext (Ext.refl wr).drew) ?_
      intro T hT hne2 u hu
      clear hu
      refine lx_next 7 (by rfl) (by decide) ?_
      dsimp only [List.take, List.drop]
      repeat (go_big_quiet_step (fail))
      refine wpQuiet_nil ?_
      refine lx_loud (by rfl) (by kernel_rfl) ?_ (fun K hK => ?_)
      · intro L w4 hL hd hcl hC hs
        obtain ⟨y, rfl⟩ := hC
        simp only [hL, cond_false] at hs
        have r0 := hs.cell 0 (v := .int .i64 0) rfl
        have r1 := hs.cell 1 (v := .int .i64 0) rfl
        have rf0 := hs.frozen 0
        have rf1 := hs.frozen 1
        have rl := hs.lt
        have HS := Lib.hid hs
        clear hs
        go_wp2
        exact ⟨⟨y.chgd (two_chg (· = KB) y.world rfl _ _) (fun k hk => .inr fun _ => hk), rfl⟩, two_set HS.out _ _⟩
      go_simp
      with_reducible refine hK _ ?_
      clear hK K
      refine lx_nil ?_
      intro y hs
      simp only [cond_true] at hs
      have r0 := hs.cell 0 (v := .int .i64 (wrap64 (n.tdiv x))) rfl
      have r1 := hs.cell 1 (v := .int .i64 (wrap64 (d.tdiv x))) rfl
      have HC : Hid (Ext w y.world) := Lib.hid (Chg.to_ext HXF.out (y.chg.mono (T := (· = KB)) (by rintro q - ⟨_, e⟩; exact e)) (by rintro i rfl; rw [HK.out]; exact Nat.le_refl _))
      clear hs hT hne2
      generalize y.world = w9 at *
      go_wp2
      refine bodyPost_ret (v := .agg #[.int .i64 (wrap64 (n.tdiv x)), .int .i64 (wrap64 (d.tdiv x))]) (by simp [results, Try.results64, go_sem, r0, r1]) rfl ⟨by rw [HV.out, HI1.out, HI2.out], HC.out⟩
end Go.Proofs.Ytmopadnkjlodnaa
namespace Go.Proofs.Ytmopadnkjlodnaa
open Go.RowKit Go.BigFrame
attribute [local go_sem] Oper.semAt_some Later.cell Later.frozen
def avrS (t : Tot) : Ran × Int :=
  if inB t.points 0 1000000 = false ∨ inB t.darts.lo 0 t.darts.hi = false ∨ 1000000 < t.darts.hi then (ran0, 2) else if t.darts.lo = 0 then (ran0, 7) else (⟨fracS (3 * t.points) t.darts.hi, fracS (3 * t.points) t.darts.lo⟩, 0)
set_option maxRecDepth 100000 in
set_option maxHeartbeats 4000000 in
theorem ref_Average (t : Tot) (w : World) : Calls Try.prog 28 #[t.agg] w fun e w' => e = .returned (.tuple #[(avrS t).1.agg, .int .i64 (avrS t).2]) ∧ Ext w w' := by
  obtain ⟨av, hav⟩ : ∃ c, avrS t = c := ⟨_, rfl⟩
  rw [hav]
  have HAV := Lib.hid hav
  clear hav
  obtain ⟨legs, won, visits, points, ⟨dl, dh⟩, ⟨tl, th⟩, tons, highs, tops, best⟩ := t
  unfold Tot.agg
  simp only
  go_enter Try.func28, Try.ntmps28
  go_wp2_with fail
  refine (ref_In points 0 1000000 _).mono ?_
  rintro e w1 ⟨rfl, hx1⟩
  have hx := (((Ext.refl w).alloc _).alloc _).trans hx1
  have hb : Blk w1 w.heap.size #[.int .i64 legs, .int .i64 won, .int .i64 visits, .int .i64 points, .int .i64 dl, .int .i64 dh, .int .i64 tl, .int .i64 th, .int .i64 tons, .int .i64 highs, .int .i64 tops, .int .i64 best] := ((Blk.new _ _ _).alloc _).ext hx1
  have hr : Blk w1 (w.heap.size + 1) #[.int .i64 0, .int .i64 0, .int .i64 0, .int .i64 0] := (Blk.at _ (by simp)).ext hx1
  obtain ⟨KB, hKB⟩ : ∃ y, y = w.heap.size + 1 := ⟨_, rfl⟩
  rw [← hKB] at hr ⊢
  have HX := Lib.hid hx
  have HB := Lib.hid hb
  have HR := Lib.hid hr
  have HKB := Lib.hid (show w.heap.size ≤ KB ∧ KB ≠ w.heap.size by omega)
  clear hx hb hr hx1 hKB
  have r0 := HR.out.cell 0 (v := .int .i64 0) rfl
  have r1 := HR.out.cell 1 (v := .int .i64 0) rfl
  have r2 := HR.out.cell 2 (v := .int .i64 0) rfl
  have r3 := HR.out.cell 3 (v := .int .i64 0) rfl
  have rl := HR.out.lt
  have f0 := HR.out.frozen 0
  have f1 := HR.out.frozen 1
  have f2 := HR.out.frozen 2
  have f3 := HR.out.frozen 3
  cases h1 : inB points 0 1000000
  · have e : av = (ran0, 2) := by rw [← HAV.out]; simp [avrS, h1]
    have HE := Lib.hid e
    clear e
    go_wp2
    have hq := four_set HR.out (.int .i64 0) (.int .i64 0) (.int .i64 0) (.int .i64 0)
    have hX' := Chg.to_ext HX.out (four_chg (· = KB) w1 rfl (.int .i64 0) (.int .i64 0) (.int .i64 0) (.int .i64 0)) (by rintro i rfl; exact HKB.out.1)
    obtain ⟨W, hW⟩ : ∃ y, y = ((((w1.setCell ⟨KB, 0, none⟩ (.int .i64 0)).setCell ⟨KB, 1, none⟩ (.int .i64 0)).setCell ⟨KB, 2, none⟩ (.int .i64 0)).setCell ⟨KB, 3, none⟩ (.int .i64 0)) := ⟨_, rfl⟩
    rw [← hW] at hq hX' ⊢
    have q0 := hq.cell 0 (v := .int .i64 0) rfl
    have q1 := hq.cell 1 (v := .int .i64 0) rfl
    have q2 := hq.cell 2 (v := .int .i64 0) rfl
    have q3 := hq.cell 3 (v := .int .i64 0) rfl
    refine bodyPost_ret (v := .tuple #[.agg #[.int .i64 0, .int .i64 0, .int .i64 0, .int .i64 0], .int .i64 2]) (by simp [results, Try.results28, go_sem, q0, q1, q2, q3]) rfl ⟨by rw [HE.out]; rfl, hX'⟩
  clear r0 r1 r2 r3 rl f0 f1 f2 f3
  have b3 := HB.out.cell 3 (v := .int .i64 points) rfl
  have b4 := HB.out.cell 4 (v := .int .i64 dl) rfl
  have b5 := HB.out.cell 5 (v := .int .i64 dh) rfl
  have bl := HB.out.lt
  go_wp2_with fail
  refine (ref_In dl 0 dh _).mono ?_
  rintro e w2 ⟨rfl, hx2⟩
  have HX2 := Lib.hid (HX.out.trans hx2)
  have HB2 := Lib.hid (HB.out.ext hx2)
  have HR2 := Lib.hid (HR.out.ext hx2)
  clear b3 b4 b5 bl hx2
  have r0 := HR2.out.cell 0 (v := .int .i64 0) rfl
  have r1 := HR2.out.cell 1 (v := .int .i64 0) rfl
  have r2 := HR2.out.cell 2 (v := .int .i64 0) rfl
  have r3 := HR2.out.cell 3 (v := .int .i64 0) rfl
  have rl := HR2.out.lt
  have f0 := HR2.out.frozen 0
  have f1 := HR2.out.frozen 1
  have f2 := HR2.out.frozen 2
  have f3 := HR2.out.frozen 3
  have b3 := HB2.out.cell 3 (v := .int .i64 points) rfl
  have b4 := HB2.out.cell 4 (v := .int .i64 dl) rfl
  have b5 := HB2.out.cell 5 (v := .int .i64 dh) rfl
  have bl := HB2.out.lt
  cases h2 : inB dl 0 dh
  · have e : av = (ran0, 2) := by rw [← HAV.out]; simp [avrS, h2]
    have HE := Lib.hid e
    clear e
    go_wp2
    have hq := four_set HR2.out (.int .i64 0) (.int .i64 0) (.int .i64 0) (.int .i64 0)
    have hX' := Chg.to_ext HX2.out (four_chg (· = KB) w2 rfl (.int .i64 0) (.int .i64 0) (.int .i64 0) (.int .i64 0)) (by rintro i rfl; exact HKB.out.1)
    obtain ⟨W, hW⟩ : ∃ y, y = ((((w2.setCell ⟨KB, 0, none⟩ (.int .i64 0)).setCell ⟨KB, 1, none⟩ (.int .i64 0)).setCell ⟨KB, 2, none⟩ (.int .i64 0)).setCell ⟨KB, 3, none⟩ (.int .i64 0)) := ⟨_, rfl⟩
    rw [← hW] at hq hX' ⊢
    have q0 := hq.cell 0 (v := .int .i64 0) rfl
    have q1 := hq.cell 1 (v := .int .i64 0) rfl
    have q2 := hq.cell 2 (v := .int .i64 0) rfl
    have q3 := hq.cell 3 (v := .int .i64 0) rfl
    refine bodyPost_ret (v := .tuple #[.agg #[.int .i64 0, .int .i64 0, .int .i64 0, .int .i64 0], .int .i64 2]) (by simp [results, Try.results28, go_sem, q0, q1, q2, q3]) rfl ⟨by rw [HE.out]; rfl, hX'⟩
  by_cases h4 : 1000000 < dh
  · have e : av = (ran0, 2) := by rw [← HAV.out]; simp [avrS, h4]
    have HE := Lib.hid e
    clear e
    go_wp2
    have hq := four_set HR2.out (.int .i64 0) (.int .i64 0) (.int .i64 0) (.int .i64 0)
    have hX' := Chg.to_ext HX2.out (four_chg (· = KB) w2 rfl (.int .i64 0) (.int .i64 0) (.int .i64 0) (.int .i64 0)) (by rintro i rfl; exact HKB.out.1)
    obtain ⟨W, hW⟩ : ∃ y, y = ((((w2.setCell ⟨KB, 0, none⟩ (.int .i64 0)).setCell ⟨KB, 1, none⟩ (.int .i64 0)).setCell ⟨KB, 2, none⟩ (.int .i64 0)).setCell ⟨KB, 3, none⟩ (.int .i64 0)) := ⟨_, rfl⟩
    rw [← hW] at hq hX' ⊢
    have q0 := hq.cell 0 (v := .int .i64 0) rfl
    have q1 := hq.cell 1 (v := .int .i64 0) rfl
    have q2 := hq.cell 2 (v := .int .i64 0) rfl
    have q3 := hq.cell 3 (v := .int .i64 0) rfl
    refine bodyPost_ret (v := .tuple #[.agg #[.int .i64 0, .int .i64 0, .int .i64 0, .int .i64 0], .int .i64 2]) (by simp [results, Try.results28, go_sem, q0, q1, q2, q3]) rfl ⟨by rw [HE.out]; rfl, hX'⟩
  by_cases h3 : dl = 0
  · have e : av = (ran0, 7) := by subst h3; rw [← HAV.out]; simp [avrS, h1, h2, h4]
    have HE := Lib.hid e
    clear e
    subst h3
    go_wp2
    have hq := four_set HR2.out (.int .i64 0) (.int .i64 0) (.int .i64 0) (.int .i64 0)
    have hX' := Chg.to_ext HX2.out (four_chg (· = KB) w2 rfl (.int .i64 0) (.int .i64 0) (.int .i64 0) (.int .i64 0)) (by rintro i rfl; exact HKB.out.1)
    obtain ⟨W, hW⟩ : ∃ y, y = ((((w2.setCell ⟨KB, 0, none⟩ (.int .i64 0)).setCell ⟨KB, 1, none⟩ (.int .i64 0)).setCell ⟨KB, 2, none⟩ (.int .i64 0)).setCell ⟨KB, 3, none⟩ (.int .i64 0)) := ⟨_, rfl⟩
    rw [← hW] at hq hX' ⊢
    have q0 := hq.cell 0 (v := .int .i64 0) rfl
    have q1 := hq.cell 1 (v := .int .i64 0) rfl
    have q2 := hq.cell 2 (v := .int .i64 0) rfl
    have q3 := hq.cell 3 (v := .int .i64 0) rfl
    refine bodyPost_ret (v := .tuple #[.agg #[.int .i64 0, .int .i64 0, .int .i64 0, .int .i64 0], .int .i64 7]) (by simp [results, Try.results28, go_sem, q0, q1, q2, q3]) rfl ⟨by rw [HE.out]; rfl, hX'⟩
  have e : av = (⟨fracS (3 * points) dh, fracS (3 * points) dl⟩, 0) := by rw [← HAV.out]; simp [avrS, h1, h2, h3, h4]
  have HE := Lib.hid e
  have hpt : 0 ≤ points ∧ points ≤ 1000000 := by simpa [inB] using h1
  have hsp0 : 0 ≤ dl ∧ dl ≤ dh := by simpa [inB] using h2
  have hsp : 0 < dl ∧ dl ≤ dh ∧ dh ≤ 1000000 := by omega
  have hw : wrap64 (3 * points) = 3 * points := wrap64_in' ⟨by omega, by omega⟩
  clear e
  go_upto_region 5 with fail
  have HF1 := Lib.hid (fun W => ref_Lowest (3 * points) dh W ⟨by omega, by omega⟩ ⟨by omega, hsp.2.2⟩)
  have HF2 := Lib.hid (fun W => ref_Lowest (3 * points) dl W ⟨by omega, by omega⟩ ⟨hsp.1, by omega⟩)
  unfold Fra.agg at HF1 HF2
  have HEE : Hid (av = (⟨fracS (3 * points) dh, fracS (3 * points) dl⟩, 0)) := HE
  generalize fracS (3 * points) dh = F1 at *
  generalize fracS (3 * points) dl = F2 at *
  have hne : ¬ (w.heap.size = KB) := fun e => HKB.out.2 e.symm
  have y4 : ∀ y : Lat (fun b _ => b = KB) w2, y.world.cell? ⟨w.heap.size, 4, none⟩ = some (.int .i64 dl) := fun y => (HB2.out.chg y.chg (by rintro ⟨_, e⟩; exact hne e)).cell 4 rfl
  have y5 : ∀ y : Lat (fun b _ => b = KB) w2, y.world.cell? ⟨w.heap.size, 5, none⟩ = some (.int .i64 dh) := fun y => (HB2.out.chg y.chg (by rintro ⟨_, e⟩; exact hne e)).cell 5 rfl
  have y3 : ∀ y : Lat (fun b _ => b = KB) w2, y.world.cell? ⟨w.heap.size, 3, none⟩ = some (.int .i64 points) := fun y => (HB2.out.chg y.chg (by rintro ⟨_, e⟩; exact hne e)).cell 3 rfl
  have hk7 : ∀ k : Nat, (k == 15) = true → k < 17 := by
    intro k hk
    have : k = 15 := by simpa using hk
    omega
  refine wp_region_lat (by kernel_rfl) (fun b _ => b = KB) (fun k => k == 15) (fun _ _ => True) (fun L _ W => bif L 15 then Blk W KB #[.int .i64 F1.n, .int .i64 F1.d, .int .i64 F2.n, .int .i64 F2.d] else Blk W KB #[.int .i64 0, .int .i64 0, .int .i64 0, .int .i64 0]) (by kernel_rfl) (fun k hk => hk7 k hk)
    (fun L L' u w' h hg => by have e := h 15 rfl; show (bif L' 15 then _ else _); rw [e]; exact hg) (fun L u a b h hx => by revert h; show (bif L 15 then _ else _) → (bif L 15 then _ else _); cases L 15 <;> exact fun h => Blk.ext h hx) (fun _ => undef) (fun _ _ => trivial) (HR2.out.ext (Ext.refl w2).drew) ?_
  intro T hT hne2 u hu
  clear hu b3 b4 b5 r0 r1 r2 r3 f0 f1 f2 f3
  refine lx_next 15 (by rfl) (by decide) ?_
  dsimp only [List.take, List.drop]
  repeat (go_big_quiet_step (first | with_reducible refine Calls.lat hT (HF1.out _) | with_reducible refine Calls.lat hT (HF2.out _)))
  refine wpQuiet_nil ?_
  refine lx_loud (by rfl) (by kernel_rfl) ?_ (fun K hK => ?_)
  · intro L w4 hL hd hcl hC hs
    obtain ⟨y, rfl⟩ := hC
    simp only [hL, cond_false] at hs
    have r0 := hs.cell 0 (v := .int .i64 0) rfl
    have r1 := hs.cell 1 (v := .int .i64 0) rfl
    have r2 := hs.cell 2 (v := .int .i64 0) rfl
    have r3 := hs.cell 3 (v := .int .i64 0) rfl
    have rf0 := hs.frozen 0
    have rf1 := hs.frozen 1
    have rf2 := hs.frozen 2
    have rf3 := hs.frozen 3
    have rl := hs.lt
    have HS := Lib.hid hs
    clear hs
    go_wp2
    exact ⟨⟨y.chgd (four_chg (· = KB) y.world rfl _ _ _ _) (fun k hk => .inr fun _ => hk), rfl⟩, four_set HS.out _ _ _ _⟩
  go_simp
  with_reducible refine hK _ ?_
  clear hK K
  refine lx_next 1 (by rfl) (by decide) ?_
  dsimp only [List.take, List.drop]
  repeat (go_big_quiet_step (fail))
  refine wpQuiet_nil ?_
  refine lx_nil ?_
  intro y hs
  simp only [cond_true] at hs
  have q0 := hs.cell 0 (v := .int .i64 F1.n) rfl
  have q1 := hs.cell 1 (v := .int .i64 F1.d) rfl
  have q2 := hs.cell 2 (v := .int .i64 F2.n) rfl
  have q3 := hs.cell 3 (v := .int .i64 F2.d) rfl
  have HC : Hid (Ext w y.world) := Lib.hid (Chg.to_ext HX2.out (y.chg.mono (T := (· = KB)) (by rintro q - ⟨_, e⟩; exact e)) (by rintro i rfl; exact HKB.out.1))
  clear hs hT hne2 y3 y4 y5
  generalize y.world = w9 at *
  go_wp2
  refine bodyPost_ret (v := .tuple #[.agg #[.int .i64 F1.n, .int .i64 F1.d, .int .i64 F2.n, .int .i64 F2.d], .int .i64 0]) (by simp [results, Try.results28, go_sem, q0, q1, q2, q3]) rfl ⟨by rw [HEE.out]; rfl, HC.out⟩
end Go.Proofs.Ytmopadnkjlodnaa
namespace Go.Proofs.Ytmopadnkjlodnaa
theorem spn_in (s : Spn) : spnB s = (inB s.lo 0 s.hi && decide (s.hi ≤ 1000000)) := by
  unfold spnB
  rw [ins_two]
  unfold inB
  rw [Bool.eq_iff_iff]
  simp only [Bool.and_eq_true, decide_eq_true_eq]
  omega
theorem avr_avg (t : Tot) : avrS t = avgS t := by
  unfold avrS avgS
  rw [insm_one, spn_in]
  have e : (inB t.points 0 1000000 = false ∨ inB t.darts.lo 0 t.darts.hi = false ∨ 1000000 < t.darts.hi) ↔ (inB t.points 0 1000000 = false ∨ (inB t.darts.lo 0 t.darts.hi && decide (t.darts.hi ≤ 1000000)) = false) := by
    rw [Bool.and_eq_false_iff, decide_eq_false_iff_not, Int.not_le]
  simp only [e]
end Go.Proofs.Ytmopadnkjlodnaa
