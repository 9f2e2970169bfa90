/-
  Package board: Plan, Last.
-/
import Derived.Test.YtlkbbcfbnbnagaaGreatBoX
namespace Go.Proofs.YtlkbbcfbnbnagaaGreat
open Go.RowKit Go.BigFrame
attribute [local go_sem] Later.cell Later.frozen
def planR (b : Brd) (worn : List Int) (wks : List (List Int)) : List Int × Int × Int :=
  if errB b ≠ 0 then ([], 0, errB b) else if 3 < wks.length then ([], 0, 5) else if watB b worn wks ≠ 0 then ([], 0, watB b worn wks) else
    if 1000000000 < maxL (bestP worn wks).2 then ([], 0, 8) else ((bestP worn wks).1, maxL (bestP worn wks).2, 0)
set_option maxHeartbeats 2000000 in
theorem brd_Plan (v : BrdV) (b : Brd) (worn : List Int) (wks : List (List Int)) (wa ka : Option Addr) (wc kc : Nat) (w : World) (h : BrdAt w v b) (hs : SmallB b) (hw : RdI S0 w (.slice wa worn.length wc) worn) (hk : WksAt S0 w (.slice ka wks.length kc) wks) (hl : wks.length ≤ 1000000) :
    Calls Tryz.prog 10 #[.agg (v.cells b), .slice wa worn.length wc, .slice ka wks.length kc] w fun e w' => ∃ u, e = .returned (.tuple #[u, .int .i64 (planR b worn wks).2.1, .int .i64 (planR b worn wks).2.2]) ∧ RdI S0 w' u (planR b worn wks).1 ∧ Ext w w' := by
  have HC := Lib.hid (fun W (hx : Ext w W) => brd_Check v b W (h.ext hx) hs)
  have HO := Lib.hid (fun W (hx : Ext w W) => brd_watch v b worn wks wa ka wc kc W (h.ext hx) hs (hw.keep (.of_ext hx)) (hk.keep (.of_ext hx)) hl)
  have HOK := Lib.hid (watB_ok (worn := worn) (wks := wks) hs)
  have HW := Lib.hid hw
  have HK := Lib.hid hk
  obtain ⟨q0, q1, q2, hr⟩ : ∃ q0 q1 q2, planR b worn wks = (q0, q1, q2) := ⟨_, _, _, rfl⟩
  have HR := Lib.hid hr
  rw [hr]
  generalize herr : watB b worn wks = er at HO HOK
  have HER := Lib.hid herr
  generalize her0 : errB b = e0 at HC
  have HE0 := Lib.hid her0
  obtain ⟨eye, bull, rings, lines, nums, wire⟩ := b
  obtain ⟨ra, la, na, rc, lc, nc⟩ := v
  unfold BrdV.cells at *
  simp only at HO HC ⊢
  clear h hs hw hk hr herr her0
  go_enter Tryz.func10, Tryz.ntmps10
  go_wp2_with fail
  refine (HC.out _ ((Ext.refl w).alloc _)).mono ?_
  rintro e w1 ⟨rfl, hx1⟩
  have HX1 := Lib.hid (((Ext.refl w).alloc (.cells #[.int .i64 eye, .int .i64 bull, .slice ra rings.length rc, .slice la lines.length lc, .slice na nums.length nc, .int .i64 wire] 26)).trans hx1)
  have hbb : Blk w1 w.heap.size #[.int .i64 eye, .int .i64 bull, .slice ra rings.length rc, .slice la lines.length lc, .slice na nums.length nc, .int .i64 wire] := (Blk.new _ _ _).ext hx1
  have HBB := Lib.hid hbb
  clear hx1
  by_cases h0 : e0 = 0
  case neg =>
    have e : (q0, q1, q2) = (([] : List Int), (0 : Int), e0) := by rw [← HR.out]; unfold planR; rw [HE0.out, if_pos h0]
    obtain ⟨rfl, rfl, rfl⟩ : q0 = [] ∧ q1 = 0 ∧ q2 = e0 := by simpa using e
    have h0' : (q2 != 0) = true := by simpa using h0
    clear e hbb
    go_wp2
    refine bodyPost_ret (v := .tuple #[.slice none 0 0, .int .i64 0, .int .i64 q2]) (by simp [results, Tryz.results10, go_sem]) rfl ⟨_, rfl, .inl ⟨rfl, rfl⟩, HX1.out⟩
  subst h0
  have hR0 : (q0, q1, q2) = if 3 < wks.length then (([] : List Int), (0 : Int), (5 : Int)) else if er ≠ 0 then ([], 0, er) else if 1000000000 < maxL (bestP worn wks).2 then ([], 0, 8) else ((bestP worn wks).1, maxL (bestP worn wks).2, 0) := by rw [← HR.out]; unfold planR; rw [HE0.out, if_neg (by simp), HER.out]
  have HR0 := Lib.hid hR0
  clear hR0
  have m0 := hbb.cell 0 (v := .int .i64 eye) rfl
  have m1 := hbb.cell 1 (v := .int .i64 bull) rfl
  have m2 := hbb.cell 2 (v := .slice ra rings.length rc) rfl
  have m3 := hbb.cell 3 (v := .slice la lines.length lc) rfl
  have m4 := hbb.cell 4 (v := .slice na nums.length nc) rfl
  have m5 := hbb.cell 5 (v := .int .i64 wire) rfl
  have hml := hbb.lt
  clear hbb
  by_cases h3 : 3 < wks.length
  · have e := HR0.out
    rw [if_pos h3] at e
    obtain ⟨rfl, rfl, rfl⟩ : q0 = [] ∧ q1 = 0 ∧ q2 = 5 := by simpa using e
    clear e
    go_wp2
    refine bodyPost_ret (v := .tuple #[.slice none 0 0, .int .i64 0, .int .i64 5]) (by simp [results, Tryz.results10, go_sem]) rfl ⟨_, rfl, .inl ⟨rfl, rfl⟩, HX1.out⟩
  rw [if_neg h3] at HR0
  go_wp2_with fail
  refine (HO.out _ HX1.out).mono ?_
  rintro e w2 ⟨rfl, hx2⟩
  have HX2 := Lib.hid (HX1.out.trans hx2)
  clear hx2 m0 m1 m2 m3 m4 m5 hml
  by_cases h0 : er = 0
  case neg =>
    have e := HR0.out
    rw [if_pos h0] at e
    obtain ⟨rfl, rfl, rfl⟩ : q0 = [] ∧ q1 = 0 ∧ q2 = er := by simpa using e
    have h0' : (q2 != 0) = true := by simpa using h0
    clear e
    go_wp2
    refine bodyPost_ret (v := .tuple #[.slice none 0 0, .int .i64 0, .int .i64 q2]) (by simp [results, Tryz.results10, go_sem]) rfl ⟨_, rfl, .inl ⟨rfl, rfl⟩, HX2.out.alloc _⟩
  subst h0
  rw [if_neg (by simp)] at HR0
  have hok := HOK.out (by trivial)
  have hlw := hok.len
  have hpos := hok.pos
  have hwks := hok.wks
  have hbw := hok.big
  simp only at hlw hpos hwks
  have HB := Lib.hid (fun W (hx : Ext w2 W) => brd_best nums.length worn wks wa ka wc kc W (by omega) (HW.out.keep (.of_ext (HX2.out.trans hx))) hlw (by omega) (fun y hy => by have := hbw y hy; omega) (fun wk hwk => ⟨(hwks wk hwk).1, fun y hy => by have := (hwks wk hwk).2 y hy; omega⟩) (HK.out.keep (.of_ext (HX2.out.trans hx))))
  have HPO := Lib.hid hpos
  clear hok hlw hpos hwks hbw
  go_wp2_with fail
  refine (HB.out _ ((Ext.refl w2).alloc _)).mono ?_
  rintro e w3 ⟨t2, u2, p, rfl, hp, ht2, hu2, hpl, hx3⟩
  have hbp : bestP worn wks = p := by unfold bestP; rw [hp]; rfl
  rw [hbp] at HR0
  have HX3 := Lib.hid ((HX2.out.alloc (.cells #[.int .i64 eye, .int .i64 bull, .slice ra rings.length rc, .slice la lines.length lc, .slice na nums.length nc, .int .i64 wire] 74)).trans hx3)
  obtain ⟨ta, tc, rfl, -⟩ := ht2.cells
  obtain ⟨ub, uo, uc, rfl, hux, -⟩ := hu2.head (by rw [hpl]; exact HPO.out.1)
  have HT2 := Lib.hid ht2
  obtain ⟨tn, htn⟩ : ∃ tn, p.1.length = tn := ⟨_, rfl⟩
  rw [hpl, htn]
  rw [htn] at HT2
  have HM := Lib.hid (fun W (hx : Ext w3 W) => by have := brd_most (.slice ta tn tc) p.2 (some ⟨ub, uo, none⟩) uc W (hux.ext hx) (by rw [hpl]; exact HPO.out.1) (by rw [hpl]; have := HPO.out.2; omega); rwa [hpl] at this)
  generalize maxL p.2 = m at *
  have hB0 : Blk (w3.alloc (.cells #[.slice ta tn tc, .slice (some ⟨ub, uo, none⟩) nums.length uc] 78)) w3.heap.size #[.slice ta tn tc, .slice (some ⟨ub, uo, none⟩) nums.length uc] := Blk.new _ _ _
  have HB0 := Lib.hid hB0
  clear hp ht2 hu2 hx3 hbp hux hpl hB0 htn
  go_wp2_with fail
  refine (HM.out _ ((Ext.refl w3).alloc _)).mono ?_
  rintro e w4 ⟨rfl, hx4⟩
  have HX4 := Lib.hid ((HX3.out.alloc (.cells #[.slice ta tn tc, .slice (some ⟨ub, uo, none⟩) nums.length uc] 78)).trans hx4)
  have HM4 := Lib.hid (fun W (h : Ext w4 W) => HM.out W ((((Ext.refl w3).alloc _).trans hx4).trans h))
  have HT4 := Lib.hid (HT2.out.keep (.of_ext (((Ext.refl w3).alloc (.cells #[.slice ta tn tc, .slice (some ⟨ub, uo, none⟩) nums.length uc] 78)).trans hx4)))
  have b0 := (HB0.out.ext hx4).cell 0 (v := .slice ta tn tc) rfl
  have b1 := (HB0.out.ext hx4).cell 1 (v := .slice (some ⟨ub, uo, none⟩) nums.length uc) rfl
  have hbl := (HB0.out.ext hx4).lt
  clear hx4
  by_cases hm : (1000000000 : Int) < m
  · have e := HR0.out
    obtain ⟨rfl, rfl, rfl⟩ : q0 = [] ∧ q1 = 0 ∧ q2 = 8 := by simpa [hm] using e
    clear e
    go_wp2
    refine bodyPost_ret (v := .tuple #[.slice none 0 0, .int .i64 0, .int .i64 8]) (by simp [results, Tryz.results10, go_sem]) rfl ⟨_, rfl, .inl ⟨rfl, rfl⟩, HX4.out⟩
  · have e := HR0.out
    obtain ⟨rfl, rfl, rfl⟩ : q0 = p.1 ∧ q1 = m ∧ q2 = 0 := by simpa [hm] using e
    clear e
    go_upto_region 12 with fail
    refine wp_region_later (by kernel_rfl) (by kernel_rfl) ?_
    repeat (go_big_quiet_step (refine Calls.later (HM4.out _ (Later.ext _))))
    refine wpQuiet_nil ?_
    intro w5 hw5
    obtain ⟨⟨w5, hx5⟩, rfl⟩ := hw5
    go_wp2
    refine bodyPost_ret (v := .tuple #[.slice ta tn tc, .int .i64 q1, .int .i64 0]) (by simp [results, Tryz.results10, go_sem]) rfl ⟨_, rfl, HT4.out.keep (.of_ext hx5), HX4.out.trans hx5⟩
theorem maxL_ge : ∀ (l : List Int), ∀ y ∈ l, y ≤ maxL l := by
  have h : ∀ (l : List Int) (a : Int), a ≤ l.foldl max a ∧ ∀ y ∈ l, y ≤ l.foldl max a := by
    intro l
    induction l with
    | nil => intro a; exact ⟨Int.le_refl a, fun y hy => by cases hy⟩
    | cons x l ih =>
      intro a
      obtain ⟨h1, h2⟩ := ih (max a x)
      refine ⟨Int.le_trans (Int.le_max_left a x) h1, fun y hy => ?_⟩
      rcases List.mem_cons.1 hy with rfl | hy
      · exact Int.le_trans (Int.le_max_right a y) h1
      · exact h2 y hy
  intro l y hy
  cases l with
  | nil => cases hy
  | cons x l =>
    obtain ⟨h1, h2⟩ := h l x
    rcases List.mem_cons.1 hy with rfl | hy
    · exact h1
    · exact h2 y hy
theorem plans_one {week u : List Int} {p : List Int × List Int} (h : p ∈ plansL [week] [] u) : ∃ k : Nat, k < u.length ∧ p = ([(k : Int)], afterL u week k) := by
  simp only [plansL, List.mem_flatMap, List.mem_singleton, List.mem_range] at h
  obtain ⟨k, hk, rfl⟩ := h
  exact ⟨k, hk, rfl⟩
theorem afterL_mem {u wk : List Int} {k : Nat} {y : Int} (h : y ∈ afterL u wk k) : ∃ a ∈ u, ∃ b ∈ wk, y = a + b := by
  unfold afterL addL at h
  rw [List.mem_iff_getElem] at h
  obtain ⟨i, hi, rfl⟩ := h
  rw [List.length_zipWith] at hi
  rw [List.getElem_zipWith]
  exact ⟨_, List.getElem_mem _, _, turnL_mem wk k _ (List.getElem_mem _), rfl⟩
def lastL (week : List Int) (limit : Int) : Nat → Nat → List Int → Int
  | 0, _, _ => -1
  | f + 1, n, u => if limit < maxL u then n else lastL week limit f (n + 1) (bestP u [week]).2
def lastR (b : Brd) (worn week : List Int) (limit : Int) : Int × Int :=
  if watB b worn [week] ≠ 0 then (0, watB b worn [week]) else if ins 0 1000000000 [limit] = true then (lastL week limit 501 0 worn, 0) else (0, 3)
theorem run_plan_worn (x0 x1 : Value) (w : World) : (Instr.field 78 (.agg #[x0, x1]) 1).run Tryz.prog w = .ok x1 w := by
  simp [Instr.field, part, asAgg, go_sem]
attribute [local go_sem] run_plan_worn
set_option maxRecDepth 100000 in
set_option maxHeartbeats 2000000 in
theorem brd_Last (v : BrdV) (b : Brd) (worn week : List Int) (wa ka : Option Addr) (wc kc : Nat) (limit : Int) (w : World) (h : BrdAt w v b) (hs : SmallB b) (hw : RdI S0 w (.slice wa worn.length wc) worn) (hk : RdI S0 w (.slice ka week.length kc) week) :
    Calls Tryz.prog 12 #[.agg (v.cells b), .slice wa worn.length wc, .slice ka week.length kc, .int .i64 limit] w fun e w' => e = .returned (.tuple #[.int .i64 (lastR b worn week limit).1, .int .i64 (lastR b worn week limit).2]) ∧ Ext w w' := by
  have HO := Lib.hid (fun W (hx : Ext w W) (n : Nat) (hn : n = W.heap.size) => brd_watch v b worn [week] wa (some ⟨n, 0, none⟩) wc 1 (W.alloc (.cells #[.slice ka week.length kc] 24)) (h.ext (hx.alloc _)) hs (hw.keep (.of_ext (hx.alloc _))) (WksAt.one (hk.keep (.of_ext hx)) _ hn) (by simp))
  have HOK := Lib.hid (watB_ok (worn := worn) (wks := [week]) hs)
  have HW := Lib.hid hw
  have HK := Lib.hid hk
  obtain ⟨q0, q1, hr⟩ : ∃ q0 q1, lastR b worn week limit = (q0, q1) := ⟨_, _, rfl⟩
  have HR := Lib.hid hr
  rw [hr]
  generalize herr : watB b worn [week] = er at HO HOK
  have HER := Lib.hid herr
  generalize hpb : ins 0 1000000000 [limit] = pb
  have HPB := Lib.hid hpb
  obtain ⟨eye, bull, rings, lines, nums, wire⟩ := b
  obtain ⟨ra, la, na, rc, lc, nc⟩ := v
  unfold BrdV.cells at *
  simp only at HO ⊢
  clear h hs hw hk hr herr hpb
  go_enter Tryz.func12, Tryz.ntmps12
  go_wp2_with fail
  refine (HO.out (w.alloc (.cells #[.int .i64 eye, .int .i64 bull, .slice ra rings.length rc, .slice la lines.length lc, .slice na nums.length nc, .int .i64 wire] 26)) ((Ext.refl w).alloc _) _ (by simp)).mono ?_
  rintro e w1 ⟨rfl, hx1⟩
  have HX1 := Lib.hid ((((Ext.refl w).alloc (.cells #[.int .i64 eye, .int .i64 bull, .slice ra rings.length rc, .slice la lines.length lc, .slice na nums.length nc, .int .i64 wire] 26)).alloc (.cells #[.slice ka week.length kc] 24)).trans hx1)
  clear hx1
  by_cases h0 : er = 0
  case neg =>
    have e : (q0, q1) = ((0 : Int), er) := by rw [← HR.out]; unfold lastR; rw [HER.out, if_pos h0]
    obtain ⟨rfl, rfl⟩ : q0 = 0 ∧ q1 = er := by simpa using e
    have h0' : (q1 != 0) = true := by simpa using h0
    clear e
    go_wp2
    refine bodyPost_ret (v := .tuple #[.int .i64 0, .int .i64 q1]) (by simp [results, Tryz.results12, go_sem]) rfl ⟨rfl, HX1.out⟩
  subst h0
  have hR0 : (q0, q1) = if pb = true then (lastL week limit 501 0 worn, (0 : Int)) else (0, 3) := by rw [← HR.out]; unfold lastR; rw [HER.out, if_neg (by simp), HPB.out]
  have HR0 := Lib.hid hR0
  clear hR0
  go_wp2_with fail
  refine (brd_within_1 _ _ _ _ _ (by simp)).mono ?_
  rintro e w2 ⟨rfl, hx2⟩
  have HX2 := Lib.hid (HX1.out.trans hx2)
  clear hx2
  rw [HPB.out]
  cases pb
  case false =>
    have e := HR0.out
    obtain ⟨rfl, rfl⟩ : q0 = 0 ∧ q1 = 3 := by simpa using e
    clear e
    go_wp2
    refine bodyPost_ret (v := .tuple #[.int .i64 0, .int .i64 3]) (by simp [results, Tryz.results12, go_sem]) rfl ⟨rfl, HX2.out⟩
  have e := HR0.out
  obtain ⟨e', rfl⟩ : q0 = lastL week limit 501 0 worn ∧ q1 = 0 := by simpa using e
  have HE := Lib.hid e'
  clear e e'
  have hok := HOK.out (by trivial)
  have hlw := hok.len
  have hpos := hok.pos
  have hwks := hok.wks week (by simp)
  have hbw := hok.big
  obtain ⟨hl0, hl1⟩ := ins_one.1 HPB.out
  simp only at hlw hpos hwks
  have HWK := Lib.hid hwks
  have HPO := Lib.hid hpos
  have HBW := Lib.hid hbw
  have HLW := Lib.hid hlw
  clear hok hlw hpos hwks hbw
  go_wp2_with fail
  go_loopw [1, 28] (fun v i wr => ∃ k : Nat, ∃ cur : List Int, k ≤ 501 ∧ i = .int .i64 k ∧ (lastL week limit 501 0 worn = lastL week limit (501 - k) k cur ∧ cur.length = nums.length ∧ ∀ y ∈ cur, 0 ≤ y ∧ y ≤ 1001000000) ∧ RdI S0 wr v cur ∧ Ext w2 wr) (fun _ i _ => 501 - (intOf i).toNat)
  case atStart => exact ⟨0, worn, by omega, rfl, ⟨rfl, HLW.out, fun y hy => by have := HBW.out y hy; omega⟩, HW.out.keep (.of_ext HX2.out), Ext.refl w2⟩
  case round =>
    obtain ⟨k, cur, hk, rfl, hf, hrd, hx3⟩ := hrel
    have HF := Lib.hid hf
    have HX3 := Lib.hid hx3
    clear hf hx3
    obtain ⟨cb, co, cc, rfl, hcx, -⟩ := hrd.head (by rw [HF.out.2.1]; exact HPO.out.1)
    have HRD := Lib.hid hrd
    obtain ⟨cn, hcn⟩ : ∃ cn, cur.length = cn := ⟨_, rfl⟩
    have HCN := Lib.hid hcn
    rw [hcn]
    have HM := Lib.hid (fun W (hx : Ext wr W) => by have := max_i cur (some ⟨cb, co, none⟩) cc W (hcx.ext hx) (by rw [HF.out.2.1]; exact HPO.out.1) (by rw [HF.out.2.1]; have := HPO.out.2; omega); rwa [hcn] at this)
    obtain ⟨m, hm⟩ : ∃ m, maxL cur = m := ⟨_, rfl⟩
    rw [hm] at HM
    have HMX := Lib.hid hm
    clear hrd hcn hcx hm
    by_cases hlt : k < 501
    · go_wp2_with fail
      refine (HM.out _ (Ext.refl wr)).mono ?_
      rintro e w4 ⟨rfl, hx4⟩
      have HX4 := Lib.hid (HX3.out.trans hx4)
      have hstep : lastL week limit (501 - k) k cur = if limit < m then (k : Int) else lastL week limit (501 - (k + 1)) (k + 1) (bestP cur [week]).2 := by
        rw [show 501 - k = (501 - (k + 1)) + 1 by omega, ← HMX.out]; rfl
      have HST := Lib.hid hstep
      have HRD4 := Lib.hid (HRD.out.keep (.of_ext hx4))
      clear hstep hx4
      by_cases hm : limit < m
      · have e : q0 = k := by rw [HE.out, HF.out.1, HST.out, if_pos hm]
        subst e
        go_wp2
        refine bodyPost_ret (v := .tuple #[.int .i64 k, .int .i64 0]) (by simp [results, Tryz.results12, go_sem]) rfl ⟨rfl, HX2.out.trans HX4.out⟩
      · rw [if_neg hm] at HST
        have HB := Lib.hid (fun W (hx : Ext w4 W) (n : Nat) (hn : n = W.heap.size) => by
          have := brd_best nums.length cur [week] (some ⟨cb, co, none⟩) (some ⟨n, 0, none⟩) cc 1 (W.alloc (.cells #[.slice ka week.length kc] 24)) (by have := HPO.out; omega) (by have := HRD4.out; rw [HCN.out] at this ⊢; exact this.keep (.of_ext (hx.alloc _))) HF.out.2.1 (by simp) (fun y hy => by have := HF.out.2.2 y hy; simp; omega) (fun wk hwk => by
            obtain rfl : wk = week := by simpa using hwk
            exact ⟨HWK.out.1, fun y hy => by have := HWK.out.2 y hy; omega⟩) (WksAt.one (HK.out.keep (.of_ext (HX2.out.trans (HX4.out.trans hx)))) _ hn)
          rw [HCN.out] at this
          exact this)
        go_wp2_with fail
        refine (HB.out _ (Ext.refl w4) _ rfl).mono ?_
        rintro e w5 ⟨t5, u5, p, rfl, hp, ht5, hu5, hpl, hx5⟩
        have hbp : bestP cur [week] = p := by unfold bestP; rw [hp]; rfl
        rw [hbp] at HST
        obtain ⟨j, hj, hpj⟩ := plans_one (bestL_mem hp)
        have hbnd : ∀ y ∈ p.2, 0 ≤ y ∧ y ≤ 1001000000 := by
          intro y hy
          rw [hpj] at hy
          obtain ⟨a, ha, b, hb, rfl⟩ := afterL_mem hy
          have h1 := maxL_ge cur a ha
          have h2 := (HF.out.2.2 a ha).1
          have h3 := HWK.out.2 b hb
          rw [HMX.out] at h1
          omega
        obtain ⟨ub, uo, uc, rfl, -⟩ := hu5.head (by rw [hpl]; exact HPO.out.1)
        obtain ⟨ta, tc, rfl, -⟩ := ht5.cells
        have HU5 := Lib.hid hu5
        have HN := Lib.hid (show lastL week limit 501 0 worn = lastL week limit (501 - (k + 1)) (k + 1) p.2 ∧ p.2.length = nums.length ∧ ∀ y ∈ p.2, 0 ≤ y ∧ y ≤ 1001000000 from ⟨by rw [HF.out.1, HST.out], hpl, hbnd⟩)
        have HX5 := Lib.hid (HX4.out.trans (((Ext.refl w4).alloc (.cells #[.slice ka week.length kc] 24)).trans hx5))
        clear hp ht5 hu5 hpl hx5 hbp hj hpj hbnd HB
        go_wp2
        go_roundw
        case rel => exact ⟨k + 1, p.2, by omega, by go_num, HN.out, HU5.out, HX5.out⟩
        case measure => simp [intOf]; omega
    · have e : q0 = -1 := by
        rw [HE.out, HF.out.1, show 501 - k = 0 by omega]; rfl
      subst e
      go_wp2
      refine bodyPost_ret (v := .tuple #[.int .i64 (-1), .int .i64 0]) (by simp [results, Tryz.results12, go_sem]) rfl ⟨rfl, HX2.out.trans HX3.out⟩
end Go.Proofs.YtlkbbcfbnbnagaaGreat
