/-
  The reference of chapter 6: Exact, whole.
-/
import Derived.Test.YtmopadnkjlodnaaRhf
namespace Go.Proofs.Ytmopadnkjlodnaa
open Go.RowKit Go.BigFrame
attribute [local go_sem] Oper.semAt_some Later.cell Later.frozen Lat.cell Lat.frozen NoX
set_option maxRecDepth 100000 in
set_option maxHeartbeats 16000000 in
theorem ref_Exact (start gin gout : Int) (beds : List Int) (ba : Option Addr) (bc : Nat) (vs : List (List Int)) (va : Option Addr) (vc : Nat) (w : World) (hR : CellsAt w .i64 ba beds) (hnil : ba = none → beds.length = 0 ∧ bc = 0) (hw : ∀ b ∈ beds, I64 b) (hbn : beds.length ≤ 1000000) (hV : VssAt w va vs) (hn : vs.length ≤ 1000000) :
    Calls Try.prog 31 #[.agg #[.int .i64 start, .int .i64 gin, .int .i64 gout], .slice ba beds.length bc, .slice va vs.length vc] w fun e w' => ExaA start gin gout beds (rxF start gin gout beds vs) w.heap.size e w' ∧ Ext w w' := by
  obtain ⟨R, hRR⟩ : ∃ y, rxF start gin gout beds vs = y := ⟨_, rfl⟩
  rw [hRR]
  have HRR := Lib.hid hRR
  have HR := Lib.hid hR
  have HNIL := Lib.hid hnil
  have HW := Lib.hid hw
  have HV := Lib.hid hV
  have HN := Lib.hid hn
  have HBN := Lib.hid hbn
  have HLW := Lib.hid (laws_eq start gin gout beds)
  clear hRR hw hV hR hnil hbn hn
  go_enter Try.func31, Try.ntmps31
  go_upto_region 1 with fail
  generalize hw1 : World.alloc (World.alloc (World.alloc w _) _) _ = w1
  obtain ⟨B, hBB⟩ : ∃ y, y = w.heap.size := ⟨_, rfl⟩
  rw [← hBB]
  have hx1 : Ext w w1 := by rw [← hw1]; exact (((Ext.refl w).alloc _).alloc _).alloc _
  have H3 : Hid (Blk w1 B #[.int .i64 start, .int .i64 gin, .int .i64 gout]) := Lib.hid (by rw [← hw1, hBB]; exact ((Blk.new w _ _).alloc _).alloc _)
  have HZ1 : Hid (ZedG (B + 1) (B + 1 + 1) w1) := Lib.hid ⟨by rw [← hw1]; exact (Blk.at _ (by simp [hBB])).alloc _, by rw [← hw1]; exact Blk.at _ (by simp [hBB]), by omega⟩
  have HX1 := Lib.hid hx1
  have HBB := Lib.hid hBB
  clear hw1 hx1 hBB
  have c0 := H3.out.cell 0 (v := .int .i64 start) rfl
  have c1 := H3.out.cell 1 (v := .int .i64 gin) rfl
  have c2 := H3.out.cell 2 (v := .int .i64 gout) rfl
  have cl := H3.out.lt
  go_wp2_with fail
  refine (ref_Count start gin gout w1).mono ?_
  rintro r w2 ⟨rfl, hx2⟩
  have HX2 := Lib.hid (HX1.out.trans hx2)
  have HZ2 := Lib.hid (HZ1.out.ext hx2)
  have H32 := Lib.hid (H3.out.ext hx2)
  clear hx2 c0 c1 c2 cl
  cases hcn : cntB start gin gout
  case false =>
    have HE : Hid (R = .inr (0, 2)) := Lib.hid (by rw [← HRR.out]; unfold rxF; rw [if_pos (by rw [HLW.out, hcn]; rfl)])
    clear hcn HLW
    have z0 := HZ2.out.k6.cell 0 (v := .int .i64 0) rfl
    have zf0 := HZ2.out.k6.frozen 0
    have z1 := HZ2.out.k6.cell 1 (v := .int .i64 0) rfl
    have zf1 := HZ2.out.k6.frozen 1
    have z2 := HZ2.out.k6.cell 2 (v := .int .i64 0) rfl
    have zf2 := HZ2.out.k6.frozen 2
    have z3 := HZ2.out.k6.cell 3 (v := .int .i64 0) rfl
    have zf3 := HZ2.out.k6.frozen 3
    have z4 := HZ2.out.k6.cell 4 (v := .int .i64 0) rfl
    have zf4 := HZ2.out.k6.frozen 4
    have z5 := HZ2.out.k6.cell 5 (v := .int .i64 0) rfl
    have zf5 := HZ2.out.k6.frozen 5
    have z6 := HZ2.out.k6.cell 6 (v := .int .i64 0) rfl
    have zf6 := HZ2.out.k6.frozen 6
    have z7 := HZ2.out.k6.cell 7 (v := .int .i64 0) rfl
    have zf7 := HZ2.out.k6.frozen 7
    have z8 := HZ2.out.k6.cell 8 (v := .int .i64 0) rfl
    have zf8 := HZ2.out.k6.frozen 8
    have z9 := HZ2.out.k6.cell 9 (v := .int .i64 0) rfl
    have zf9 := HZ2.out.k6.frozen 9
    have z10 := HZ2.out.k6.cell 10 (v := .int .i64 0) rfl
    have zf10 := HZ2.out.k6.frozen 10
    have z11 := HZ2.out.k6.cell 11 (v := .int .i64 0) rfl
    have zf11 := HZ2.out.k6.frozen 11
    have zl := HZ2.out.k6.lt
    have y0 := HZ2.out.k7.cell 0 (v := .int .i64 0) rfl
    have yf0 := HZ2.out.k7.frozen 0
    have y1 := HZ2.out.k7.cell 1 (v := .int .i64 0) rfl
    have yf1 := HZ2.out.k7.frozen 1
    have y2 := HZ2.out.k7.cell 2 (v := .int .i64 0) rfl
    have yf2 := HZ2.out.k7.frozen 2
    have y3 := HZ2.out.k7.cell 3 (v := .slice none 0 0) rfl
    have yf3 := HZ2.out.k7.frozen 3
    have y4 := HZ2.out.k7.cell 4 (v := .slice none 0 0) rfl
    have yf4 := HZ2.out.k7.frozen 4
    have y5 := HZ2.out.k7.cell 5 (v := .bool false) rfl
    have yf5 := HZ2.out.k7.frozen 5
    have yl := HZ2.out.k7.lt
    go_wp2
    have HZ9 := Lib.hid HZ2.out.set6.set7
    have HX9 := Lib.hid (Chg.to_ext HX2.out ((twl_chg (fun k => k = (B + 1) ∨ k = (B + 1 + 1)) w2 (b := (B + 1)) (.inl rfl) (.int .i64 0) (.int .i64 0) (.int .i64 0) (.int .i64 0) (.int .i64 0) (.int .i64 0) (.int .i64 0) (.int .i64 0) (.int .i64 0) (.int .i64 0) (.int .i64 0) (.int .i64 0)).trans (six_chg (fun k => k = (B + 1) ∨ k = (B + 1 + 1)) _ (b := (B + 1 + 1)) (.inr rfl) (.int .i64 0) (.int .i64 0) (.int .i64 0) (.slice none 0 0) (.slice none 0 0) (.bool false))) (by intro i hi; have h := HBB.out; rcases hi with hi | hi <;> omega))
    generalize hW9 : World.setCell _ _ _ = W9
    rw [hW9] at HZ9 HX9
    clear hW9 z0 zf0 z1 zf1 z2 zf2 z3 zf3 z4 zf4 z5 zf5 z6 zf6 z7 zf7 z8 zf8 z9 zf9 z10 zf10 z11 zf11 zl y0 yf0 y1 yf1 y2 yf2 y3 yf3 y4 yf4 y5 yf5 yl
    have q0 := HZ9.out.k6.cell 0 (v := .int .i64 0) rfl
    have q1 := HZ9.out.k6.cell 1 (v := .int .i64 0) rfl
    have q2 := HZ9.out.k6.cell 2 (v := .int .i64 0) rfl
    have q3 := HZ9.out.k6.cell 3 (v := .int .i64 0) rfl
    have q4 := HZ9.out.k6.cell 4 (v := .int .i64 0) rfl
    have q5 := HZ9.out.k6.cell 5 (v := .int .i64 0) rfl
    have q6 := HZ9.out.k6.cell 6 (v := .int .i64 0) rfl
    have q7 := HZ9.out.k6.cell 7 (v := .int .i64 0) rfl
    have q8 := HZ9.out.k6.cell 8 (v := .int .i64 0) rfl
    have q9 := HZ9.out.k6.cell 9 (v := .int .i64 0) rfl
    have q10 := HZ9.out.k6.cell 10 (v := .int .i64 0) rfl
    have q11 := HZ9.out.k6.cell 11 (v := .int .i64 0) rfl
    have p0 := HZ9.out.k7.cell 0 (v := .int .i64 0) rfl
    have p1 := HZ9.out.k7.cell 1 (v := .int .i64 0) rfl
    have p2 := HZ9.out.k7.cell 2 (v := .int .i64 0) rfl
    have p3 := HZ9.out.k7.cell 3 (v := .slice none 0 0) rfl
    have p4 := HZ9.out.k7.cell 4 (v := .slice none 0 0) rfl
    have p5 := HZ9.out.k7.cell 5 (v := .bool false) rfl
    refine bodyPost_ret (v := .tuple #[.agg #[.int .i64 0, .int .i64 0, .int .i64 0, .int .i64 0, .int .i64 0, .int .i64 0, .int .i64 0, .int .i64 0, .int .i64 0, .int .i64 0, .int .i64 0, .int .i64 0], .agg #[.int .i64 0, .int .i64 0, .int .i64 0, .slice none 0 0, .slice none 0 0, .bool false], .int .i64 0, .int .i64 2]) (by simp [results, Try.results31, go_sem, q0, q1, q2, q3, q4, q5, q6, q7, q8, q9, q10, q11, p0, p1, p2, p3, p4, p5]) rfl ⟨by rw [HE.out]; rfl, HX9.out⟩
  case true =>
  go_wp2_with fail
  refine (ref_Beds beds ba bc w2 (HR.out.ext HX2.out) HW.out HBN.out).mono ?_
  rintro r w3 ⟨rfl, hx3⟩
  have HX3 := Lib.hid (HX2.out.trans hx3)
  have HZ3 := Lib.hid (HZ2.out.ext hx3)
  have H33 := Lib.hid (H32.out.ext hx3)
  clear hx3
  cases hlv : (bedsB beds && ins 1 82 [(beds.length : Int)])
  case false =>
    have HE : Hid (R = .inr (0, 2)) := Lib.hid (by rw [← HRR.out]; unfold rxF; rw [if_pos (by rw [HLW.out, hlv, Bool.and_false])])
    clear hlv hcn HLW
    have z0 := HZ3.out.k6.cell 0 (v := .int .i64 0) rfl
    have zf0 := HZ3.out.k6.frozen 0
    have z1 := HZ3.out.k6.cell 1 (v := .int .i64 0) rfl
    have zf1 := HZ3.out.k6.frozen 1
    have z2 := HZ3.out.k6.cell 2 (v := .int .i64 0) rfl
    have zf2 := HZ3.out.k6.frozen 2
    have z3 := HZ3.out.k6.cell 3 (v := .int .i64 0) rfl
    have zf3 := HZ3.out.k6.frozen 3
    have z4 := HZ3.out.k6.cell 4 (v := .int .i64 0) rfl
    have zf4 := HZ3.out.k6.frozen 4
    have z5 := HZ3.out.k6.cell 5 (v := .int .i64 0) rfl
    have zf5 := HZ3.out.k6.frozen 5
    have z6 := HZ3.out.k6.cell 6 (v := .int .i64 0) rfl
    have zf6 := HZ3.out.k6.frozen 6
    have z7 := HZ3.out.k6.cell 7 (v := .int .i64 0) rfl
    have zf7 := HZ3.out.k6.frozen 7
    have z8 := HZ3.out.k6.cell 8 (v := .int .i64 0) rfl
    have zf8 := HZ3.out.k6.frozen 8
    have z9 := HZ3.out.k6.cell 9 (v := .int .i64 0) rfl
    have zf9 := HZ3.out.k6.frozen 9
    have z10 := HZ3.out.k6.cell 10 (v := .int .i64 0) rfl
    have zf10 := HZ3.out.k6.frozen 10
    have z11 := HZ3.out.k6.cell 11 (v := .int .i64 0) rfl
    have zf11 := HZ3.out.k6.frozen 11
    have zl := HZ3.out.k6.lt
    have y0 := HZ3.out.k7.cell 0 (v := .int .i64 0) rfl
    have yf0 := HZ3.out.k7.frozen 0
    have y1 := HZ3.out.k7.cell 1 (v := .int .i64 0) rfl
    have yf1 := HZ3.out.k7.frozen 1
    have y2 := HZ3.out.k7.cell 2 (v := .int .i64 0) rfl
    have yf2 := HZ3.out.k7.frozen 2
    have y3 := HZ3.out.k7.cell 3 (v := .slice none 0 0) rfl
    have yf3 := HZ3.out.k7.frozen 3
    have y4 := HZ3.out.k7.cell 4 (v := .slice none 0 0) rfl
    have yf4 := HZ3.out.k7.frozen 4
    have y5 := HZ3.out.k7.cell 5 (v := .bool false) rfl
    have yf5 := HZ3.out.k7.frozen 5
    have yl := HZ3.out.k7.lt
    go_wp2
    have HZ9 := Lib.hid HZ3.out.set6.set7
    have HX9 := Lib.hid (Chg.to_ext HX3.out ((twl_chg (fun k => k = (B + 1) ∨ k = (B + 1 + 1)) w3 (b := (B + 1)) (.inl rfl) (.int .i64 0) (.int .i64 0) (.int .i64 0) (.int .i64 0) (.int .i64 0) (.int .i64 0) (.int .i64 0) (.int .i64 0) (.int .i64 0) (.int .i64 0) (.int .i64 0) (.int .i64 0)).trans (six_chg (fun k => k = (B + 1) ∨ k = (B + 1 + 1)) _ (b := (B + 1 + 1)) (.inr rfl) (.int .i64 0) (.int .i64 0) (.int .i64 0) (.slice none 0 0) (.slice none 0 0) (.bool false))) (by intro i hi; have h := HBB.out; rcases hi with hi | hi <;> omega))
    generalize hW9 : World.setCell _ _ _ = W9
    rw [hW9] at HZ9 HX9
    clear hW9 z0 zf0 z1 zf1 z2 zf2 z3 zf3 z4 zf4 z5 zf5 z6 zf6 z7 zf7 z8 zf8 z9 zf9 z10 zf10 z11 zf11 zl y0 yf0 y1 yf1 y2 yf2 y3 yf3 y4 yf4 y5 yf5 yl
    have q0 := HZ9.out.k6.cell 0 (v := .int .i64 0) rfl
    have q1 := HZ9.out.k6.cell 1 (v := .int .i64 0) rfl
    have q2 := HZ9.out.k6.cell 2 (v := .int .i64 0) rfl
    have q3 := HZ9.out.k6.cell 3 (v := .int .i64 0) rfl
    have q4 := HZ9.out.k6.cell 4 (v := .int .i64 0) rfl
    have q5 := HZ9.out.k6.cell 5 (v := .int .i64 0) rfl
    have q6 := HZ9.out.k6.cell 6 (v := .int .i64 0) rfl
    have q7 := HZ9.out.k6.cell 7 (v := .int .i64 0) rfl
    have q8 := HZ9.out.k6.cell 8 (v := .int .i64 0) rfl
    have q9 := HZ9.out.k6.cell 9 (v := .int .i64 0) rfl
    have q10 := HZ9.out.k6.cell 10 (v := .int .i64 0) rfl
    have q11 := HZ9.out.k6.cell 11 (v := .int .i64 0) rfl
    have p0 := HZ9.out.k7.cell 0 (v := .int .i64 0) rfl
    have p1 := HZ9.out.k7.cell 1 (v := .int .i64 0) rfl
    have p2 := HZ9.out.k7.cell 2 (v := .int .i64 0) rfl
    have p3 := HZ9.out.k7.cell 3 (v := .slice none 0 0) rfl
    have p4 := HZ9.out.k7.cell 4 (v := .slice none 0 0) rfl
    have p5 := HZ9.out.k7.cell 5 (v := .bool false) rfl
    refine bodyPost_ret (v := .tuple #[.agg #[.int .i64 0, .int .i64 0, .int .i64 0, .int .i64 0, .int .i64 0, .int .i64 0, .int .i64 0, .int .i64 0, .int .i64 0, .int .i64 0, .int .i64 0, .int .i64 0], .agg #[.int .i64 0, .int .i64 0, .int .i64 0, .slice none 0 0, .slice none 0 0, .bool false], .int .i64 0, .int .i64 2]) (by simp [results, Try.results31, go_sem, q0, q1, q2, q3, q4, q5, q6, q7, q8, q9, q10, q11, p0, p1, p2, p3, p4, p5]) rfl ⟨by rw [HE.out]; rfl, HX9.out⟩
  case true =>
  have HL : Hid (lawsB start gin gout beds = true) := Lib.hid (by rw [HLW.out, hcn, hlv]; rfl)
  have HCN := Lib.hid (cntB_start hcn)
  have HBD : Hid (bedsB beds = true ∧ beds.length ≤ 82) := Lib.hid (by
    simp only [Bool.and_eq_true] at hlv
    have := ins_one.1 hlv.2
    exact ⟨hlv.1, by omega⟩)
  clear hlv hcn HLW
  by_cases hv : 100 < vs.length
  case pos =>
    have HE : Hid (R = .inr (0, 5)) := Lib.hid (by rw [← HRR.out]; unfold rxF; rw [if_neg (by rw [HL.out]; decide), if_pos hv])
    have z0 := HZ3.out.k6.cell 0 (v := .int .i64 0) rfl
    have zf0 := HZ3.out.k6.frozen 0
    have z1 := HZ3.out.k6.cell 1 (v := .int .i64 0) rfl
    have zf1 := HZ3.out.k6.frozen 1
    have z2 := HZ3.out.k6.cell 2 (v := .int .i64 0) rfl
    have zf2 := HZ3.out.k6.frozen 2
    have z3 := HZ3.out.k6.cell 3 (v := .int .i64 0) rfl
    have zf3 := HZ3.out.k6.frozen 3
    have z4 := HZ3.out.k6.cell 4 (v := .int .i64 0) rfl
    have zf4 := HZ3.out.k6.frozen 4
    have z5 := HZ3.out.k6.cell 5 (v := .int .i64 0) rfl
    have zf5 := HZ3.out.k6.frozen 5
    have z6 := HZ3.out.k6.cell 6 (v := .int .i64 0) rfl
    have zf6 := HZ3.out.k6.frozen 6
    have z7 := HZ3.out.k6.cell 7 (v := .int .i64 0) rfl
    have zf7 := HZ3.out.k6.frozen 7
    have z8 := HZ3.out.k6.cell 8 (v := .int .i64 0) rfl
    have zf8 := HZ3.out.k6.frozen 8
    have z9 := HZ3.out.k6.cell 9 (v := .int .i64 0) rfl
    have zf9 := HZ3.out.k6.frozen 9
    have z10 := HZ3.out.k6.cell 10 (v := .int .i64 0) rfl
    have zf10 := HZ3.out.k6.frozen 10
    have z11 := HZ3.out.k6.cell 11 (v := .int .i64 0) rfl
    have zf11 := HZ3.out.k6.frozen 11
    have zl := HZ3.out.k6.lt
    have y0 := HZ3.out.k7.cell 0 (v := .int .i64 0) rfl
    have yf0 := HZ3.out.k7.frozen 0
    have y1 := HZ3.out.k7.cell 1 (v := .int .i64 0) rfl
    have yf1 := HZ3.out.k7.frozen 1
    have y2 := HZ3.out.k7.cell 2 (v := .int .i64 0) rfl
    have yf2 := HZ3.out.k7.frozen 2
    have y3 := HZ3.out.k7.cell 3 (v := .slice none 0 0) rfl
    have yf3 := HZ3.out.k7.frozen 3
    have y4 := HZ3.out.k7.cell 4 (v := .slice none 0 0) rfl
    have yf4 := HZ3.out.k7.frozen 4
    have y5 := HZ3.out.k7.cell 5 (v := .bool false) rfl
    have yf5 := HZ3.out.k7.frozen 5
    have yl := HZ3.out.k7.lt
    go_wp2
    have HZ9 := Lib.hid HZ3.out.set6.set7
    have HX9 := Lib.hid (Chg.to_ext HX3.out ((twl_chg (fun k => k = (B + 1) ∨ k = (B + 1 + 1)) w3 (b := (B + 1)) (.inl rfl) (.int .i64 0) (.int .i64 0) (.int .i64 0) (.int .i64 0) (.int .i64 0) (.int .i64 0) (.int .i64 0) (.int .i64 0) (.int .i64 0) (.int .i64 0) (.int .i64 0) (.int .i64 0)).trans (six_chg (fun k => k = (B + 1) ∨ k = (B + 1 + 1)) _ (b := (B + 1 + 1)) (.inr rfl) (.int .i64 0) (.int .i64 0) (.int .i64 0) (.slice none 0 0) (.slice none 0 0) (.bool false))) (by intro i hi; have h := HBB.out; rcases hi with hi | hi <;> omega))
    generalize hW9 : World.setCell _ _ _ = W9
    rw [hW9] at HZ9 HX9
    clear hW9 z0 zf0 z1 zf1 z2 zf2 z3 zf3 z4 zf4 z5 zf5 z6 zf6 z7 zf7 z8 zf8 z9 zf9 z10 zf10 z11 zf11 zl y0 yf0 y1 yf1 y2 yf2 y3 yf3 y4 yf4 y5 yf5 yl
    have q0 := HZ9.out.k6.cell 0 (v := .int .i64 0) rfl
    have q1 := HZ9.out.k6.cell 1 (v := .int .i64 0) rfl
    have q2 := HZ9.out.k6.cell 2 (v := .int .i64 0) rfl
    have q3 := HZ9.out.k6.cell 3 (v := .int .i64 0) rfl
    have q4 := HZ9.out.k6.cell 4 (v := .int .i64 0) rfl
    have q5 := HZ9.out.k6.cell 5 (v := .int .i64 0) rfl
    have q6 := HZ9.out.k6.cell 6 (v := .int .i64 0) rfl
    have q7 := HZ9.out.k6.cell 7 (v := .int .i64 0) rfl
    have q8 := HZ9.out.k6.cell 8 (v := .int .i64 0) rfl
    have q9 := HZ9.out.k6.cell 9 (v := .int .i64 0) rfl
    have q10 := HZ9.out.k6.cell 10 (v := .int .i64 0) rfl
    have q11 := HZ9.out.k6.cell 11 (v := .int .i64 0) rfl
    have p0 := HZ9.out.k7.cell 0 (v := .int .i64 0) rfl
    have p1 := HZ9.out.k7.cell 1 (v := .int .i64 0) rfl
    have p2 := HZ9.out.k7.cell 2 (v := .int .i64 0) rfl
    have p3 := HZ9.out.k7.cell 3 (v := .slice none 0 0) rfl
    have p4 := HZ9.out.k7.cell 4 (v := .slice none 0 0) rfl
    have p5 := HZ9.out.k7.cell 5 (v := .bool false) rfl
    refine bodyPost_ret (v := .tuple #[.agg #[.int .i64 0, .int .i64 0, .int .i64 0, .int .i64 0, .int .i64 0, .int .i64 0, .int .i64 0, .int .i64 0, .int .i64 0, .int .i64 0, .int .i64 0, .int .i64 0], .agg #[.int .i64 0, .int .i64 0, .int .i64 0, .slice none 0 0, .slice none 0 0, .bool false], .int .i64 0, .int .i64 5]) (by simp [results, Try.results31, go_sem, q0, q1, q2, q3, q4, q5, q6, q7, q8, q9, q10, q11, p0, p1, p2, p3, p4, p5]) rfl ⟨by rw [HE.out]; rfl, HX9.out⟩
  case neg =>
  have HE : Hid (R = rxG gin gout beds vs 0 (exa0 start)) := Lib.hid (by rw [← HRR.out]; unfold rxF; rw [if_neg (by rw [HL.out]; decide), if_neg hv])
  have HVN : Hid (vs.length ≤ 100) := Lib.hid (by omega)
  have hvn : vs.length ≤ 100 := HVN.out
  have x0 : ∀ y : Lat (fun b _ => w3.heap.size ≤ b) w3, y.world.cell? ⟨B, 0, none⟩ = some (.int .i64 start) := fun y => (H33.out.chg y.chg (by have h := H33.out.lt; rintro ⟨_, e⟩; omega)).cell 0 rfl
  have x1 : ∀ y : Lat (fun b _ => w3.heap.size ≤ b) w3, y.world.cell? ⟨B, 1, none⟩ = some (.int .i64 gin) := fun y => (H33.out.chg y.chg (by have h := H33.out.lt; rintro ⟨_, e⟩; omega)).cell 1 rfl
  have x2 : ∀ y : Lat (fun b _ => w3.heap.size ≤ b) w3, y.world.cell? ⟨B, 2, none⟩ = some (.int .i64 gout) := fun y => (H33.out.chg y.chg (by have h := H33.out.lt; rintro ⟨_, e⟩; omega)).cell 2 rfl
  have xl := H33.out.lt
  go_upto_region 5 with fail
  have hlo : w3.heap.size ≤ w3.heap.size := Nat.le_refl _
  refine wp_region_sep (by kernel_rfl) [.no, .no, .box 0, .no, .app beds.length, .no, .no, .no, .no, .ptr, .ptr, .ptr, .any, .any, .any] w3.heap.size
    (fun L u => [bif L 4 then Res.own w3.heap.size 99 1 (u 4) beds.length (beds.map (Value.int .i64)) else bif L 2 then Res.own w3.heap.size 99 1 (u 2) 0 [] else Res.none,
      bif L 9 then Res.blk (ptrAt (u 9)) (bif L 12 then #[.int .i64 1, .int .i64 0, .int .i64 0, .int .i64 0, .int .i64 0, .int .i64 0, .int .i64 0, .int .i64 0, .int .i64 0, .int .i64 0, .int .i64 0, .int .i64 0] else #[.int .i64 0, .int .i64 0, .int .i64 0, .int .i64 0, .int .i64 0, .int .i64 0, .int .i64 0, .int .i64 0, .int .i64 0, .int .i64 0, .int .i64 0, .int .i64 0]) else Res.none,
      bif L 10 then Res.blk (ptrAt (u 10)) (bif L 13 then #[.int .i64 start, .int .i64 gin, .int .i64 gout, u 4, .slice none 0 0, .bool false] else #[.int .i64 0, .int .i64 0, .int .i64 0, .slice none 0 0, .slice none 0 0, .bool false]) else Res.none,
      bif L 11 then Res.blk (ptrAt (u 11)) (bif L 14 then #[.int .i64 start, .bool false, .bool false, .bool false] else #[.int .i64 0, .bool false, .bool false, .bool false]) else Res.none])
    (by kernel_rfl) (Nat.le_of_ble_eq_true rfl) (fun L L' u hh => by simp only [hh 2 rfl, hh 4 rfl, hh 9 rfl, hh 10 rfl, hh 11 rfl, hh 12 rfl, hh 13 rfl, hh 14 rfl]) (fun _ => Frm.nones _ 4 w3) ?_
  intro T hT hne u hu
  obtain ⟨k2, u2⟩ : ∃ k, u 2 = .slice (some ⟨k, 0, none⟩) 0 0 := hu 2 rfl
  obtain ⟨la, lc, u4⟩ : ∃ a c, u 4 = .slice a beds.length c := hu 4 rfl
  obtain ⟨k9, u9⟩ : ∃ k, u 9 = .pointer (some ⟨k, 0, none⟩) := hu 9 rfl
  obtain ⟨k10, u10⟩ : ∃ k, u 10 = .pointer (some ⟨k, 0, none⟩) := hu 10 rfl
  obtain ⟨k11, u11⟩ : ∃ k, u 11 = .pointer (some ⟨k, 0, none⟩) := hu 11 rfl
  clear hu
  refine lx_next 2 (by rfl) (by decide) ?_
  dsimp only [List.take, List.drop]
  repeat (go_big_quiet_step (fail))
  refine wpQuiet_nil ?_
  refine lx_loud (by rfl) (by kernel_rfl) ?_ (fun K hK => ?_)
  · intro L w3 hL hd hcl hC hs
    obtain ⟨x, rfl⟩ := hC
    have hzs := x.size
    have h4 := hcl.off hL 40 4 (by kernel_rfl)
    simp only [hL, h4, cond_false] at hs
    go_wp2
    exact aft_set x hlo ⟨_, rfl⟩ hs 0 (r' := Res.own w3.heap.size 99 1 (.slice (some ⟨x.world.heap.size, 0, none⟩) 0 0) 0 []) rfl (((Ext.refl x.world).alloc _).chg _) (own_empty rfl (by omega)) (fun k hk => .inr (by cases hk; simp)) (by first | (simp [upd, updv, hL, h4]; done) | (simp [upd, updv, hL, h4]; rfl))
  rw [u2]
  go_simp
  with_reducible refine hK _ ?_
  clear hK K
  refine lx_next 1 (by rfl) (by decide) ?_
  dsimp only [List.take, List.drop]
  repeat (go_big_quiet_step (fail))
  refine wpQuiet_nil ?_
  refine lx_loud (by rfl) (by kernel_rfl) ?_ (fun K hK => ?_)
  · intro L w3 hL hd hcl hC hs
    obtain ⟨x, rfl⟩ := hC
    have hzs := x.size
    have h13 := hcl.off hL 40 13 (by kernel_rfl)
    have h2 := hd 2 (by kernel_rfl)
    simp only [hL, h13, h2, cond_true, cond_false] at hs
    rw [u2] at hs
    have hX : Ext w3 x.world := Chg.to_ext (Ext.refl w3) x.chg (by rintro i ⟨_, h⟩; exact h)
    have hbl := HBD.out.2
    refine wp_append_from rfl _ _ 25 99 _ 1 _ rfl info_bed (by kernel_rfl) rfl (by decide) w3.heap.size _ 0 [] rfl (hs.get 0 rfl) ba beds.length bc (beds.map (Value.int .i64)) rfl HNIL.out (by simp) (CellsAt.vals (HR.out.ext (HX3.out.trans hX))) (ints_one _ _) (by omega) (by decide) (by omega) ?_
    intro v' w4 ho4 hC4 hn4
    rw [Nat.zero_add, List.nil_append] at ho4
    obtain ⟨av, ac, rfl⟩ := own_shape ho4
    go_wp2
    exact aft_set x hlo ⟨_, _, rfl⟩ hs 0 rfl hC4 (r' := Res.own w3.heap.size 99 1 (.slice av _ ac) _ _) ho4 hn4 (by first | (simp [upd, updv, hL, h2, h13, u2]; done) | (simp [upd, updv, hL, h2, h13, u2]; rfl))
  rw [u4]
  go_simp
  with_reducible refine hK _ ?_
  clear hK K
  refine lx_next 4 (by rfl) (by decide) ?_
  dsimp only [List.take, List.drop]
  repeat (go_big_quiet_step (fail))
  refine wpQuiet_nil ?_
  refine lx_loud (by rfl) (by kernel_rfl) ?_ (fun K hK => ?_)
  · intro L w3 hL hd hcl hC hs
    obtain ⟨x, rfl⟩ := hC
    have hzs := x.size
    have h12 := hcl.off hL 40 12 (by kernel_rfl)
    simp only [hL, h12, cond_false] at hs
    go_wp2
    exact aft_set x hlo ⟨_, rfl⟩ hs 1 (r' := Res.blk x.world.heap.size #[.int .i64 0, .int .i64 0, .int .i64 0, .int .i64 0, .int .i64 0, .int .i64 0, .int .i64 0, .int .i64 0, .int .i64 0, .int .i64 0, .int .i64 0, .int .i64 0]) rfl (((Ext.refl x.world).alloc _).chg _) (Blk.new _ _ _) (fun k hk => .inr (by rw [show k = x.world.heap.size from hk]; simp)) (by first | (simp [upd, updv, ptrAt, hL, h12]; done) | (simp [upd, updv, ptrAt, hL, h12]; rfl))
  rw [u9]
  go_simp
  with_reducible refine hK _ ?_
  clear hK K
  refine lx_loud (by rfl) (by kernel_rfl) ?_ (fun K hK => ?_)
  · intro L w3 hL hd hcl hC hs
    obtain ⟨x, rfl⟩ := hC
    have hzs := x.size
    have h13 := hcl.off hL 40 13 (by kernel_rfl)
    simp only [hL, h13, cond_false] at hs
    go_wp2
    exact aft_set x hlo ⟨_, rfl⟩ hs 2 (r' := Res.blk x.world.heap.size #[.int .i64 0, .int .i64 0, .int .i64 0, .slice none 0 0, .slice none 0 0, .bool false]) rfl (((Ext.refl x.world).alloc _).chg _) (Blk.new _ _ _) (fun k hk => .inr (by rw [show k = x.world.heap.size from hk]; simp)) (by first | (simp [upd, updv, ptrAt, hL, h13]; done) | (simp [upd, updv, ptrAt, hL, h13]; rfl))
  rw [u10]
  go_simp
  with_reducible refine hK _ ?_
  clear hK K
  refine lx_loud (by rfl) (by kernel_rfl) ?_ (fun K hK => ?_)
  · intro L w3 hL hd hcl hC hs
    obtain ⟨x, rfl⟩ := hC
    have hzs := x.size
    have h14 := hcl.off hL 40 14 (by kernel_rfl)
    simp only [hL, h14, cond_false] at hs
    go_wp2
    exact aft_set x hlo ⟨_, rfl⟩ hs 3 (r' := Res.blk x.world.heap.size #[.int .i64 0, .bool false, .bool false, .bool false]) rfl (((Ext.refl x.world).alloc _).chg _) (Blk.new _ _ _) (fun k hk => .inr (by rw [show k = x.world.heap.size from hk]; simp)) (by first | (simp [upd, updv, ptrAt, hL, h14]; done) | (simp [upd, updv, ptrAt, hL, h14]; rfl))
  rw [u11]
  go_simp
  with_reducible refine hK _ ?_
  clear hK K
  refine lx_loud (by rfl) (by kernel_rfl) ?_ (fun K hK => ?_)
  · intro L w3 hL hd hcl hC hs
    obtain ⟨x, rfl⟩ := hC
    have hzs := x.size
    have h9 := hd 9 (by kernel_rfl)
    simp only [hL, h9, cond_true, cond_false] at hs
    rw [u9] at hs
    have hb : Blk x.world k9 #[.int .i64 0, .int .i64 0, .int .i64 0, .int .i64 0, .int .i64 0, .int .i64 0, .int .i64 0, .int .i64 0, .int .i64 0, .int .i64 0, .int .i64 0, .int .i64 0] := hs.get 1 rfl
    have hlt := hb.lt
    have q0 := hb.cell 0 (v := .int .i64 0) rfl
    have f0 := hb.frozen 0
    have q1 := hb.cell 1 (v := .int .i64 0) rfl
    have f1 := hb.frozen 1
    have q2 := hb.cell 2 (v := .int .i64 0) rfl
    have f2 := hb.frozen 2
    have q3 := hb.cell 3 (v := .int .i64 0) rfl
    have f3 := hb.frozen 3
    have q4 := hb.cell 4 (v := .int .i64 0) rfl
    have f4 := hb.frozen 4
    have q5 := hb.cell 5 (v := .int .i64 0) rfl
    have f5 := hb.frozen 5
    have q6 := hb.cell 6 (v := .int .i64 0) rfl
    have f6 := hb.frozen 6
    have q7 := hb.cell 7 (v := .int .i64 0) rfl
    have f7 := hb.frozen 7
    have q8 := hb.cell 8 (v := .int .i64 0) rfl
    have f8 := hb.frozen 8
    have q9 := hb.cell 9 (v := .int .i64 0) rfl
    have f9 := hb.frozen 9
    have q10 := hb.cell 10 (v := .int .i64 0) rfl
    have f10 := hb.frozen 10
    have q11 := hb.cell 11 (v := .int .i64 0) rfl
    have f11 := hb.frozen 11
    go_wp2
    exact aft_set x hlo trivial hs 1 rfl (twl_chg (fun k => k = k9) _ rfl _ _ _ _ _ _ _ _ _ _ _ _ ) (r' := Res.blk k9 #[.int .i64 1, .int .i64 0, .int .i64 0, .int .i64 0, .int .i64 0, .int .i64 0, .int .i64 0, .int .i64 0, .int .i64 0, .int .i64 0, .int .i64 0, .int .i64 0]) (twl_set hb _ _ _ _ _ _ _ _ _ _ _ _ ) (fun _ hk => .inl hk) (by first | (simp [upd, updv, ptrAt, h9, hL, u9]; done) | (simp [upd, updv, ptrAt, h9, hL, u9]; rfl))
  go_simp
  with_reducible refine hK _ ?_
  clear hK K
  refine lx_loud (by rfl) (by kernel_rfl) ?_ (fun K hK => ?_)
  · intro L w3 hL hd hcl hC hs
    obtain ⟨x, rfl⟩ := hC
    have hzs := x.size
    have h10 := hd 10 (by kernel_rfl)
    have h4 := hd 4 (by kernel_rfl)
    simp only [hL, h10, h4, cond_true, cond_false] at hs
    rw [u10] at hs
    rw [u4] at hs
    have hb : Blk x.world k10 #[.int .i64 0, .int .i64 0, .int .i64 0, .slice none 0 0, .slice none 0 0, .bool false] := hs.get 2 rfl
    have hlt := hb.lt
    have q0 := hb.cell 0 (v := .int .i64 0) rfl
    have f0 := hb.frozen 0
    have q1 := hb.cell 1 (v := .int .i64 0) rfl
    have f1 := hb.frozen 1
    have q2 := hb.cell 2 (v := .int .i64 0) rfl
    have f2 := hb.frozen 2
    have q3 := hb.cell 3 (v := .slice none 0 0) rfl
    have f3 := hb.frozen 3
    have q4 := hb.cell 4 (v := .slice none 0 0) rfl
    have f4 := hb.frozen 4
    have q5 := hb.cell 5 (v := .bool false) rfl
    have f5 := hb.frozen 5
    go_wp2
    exact aft_set x hlo trivial hs 2 rfl (six_chg (fun k => k = k10) _ rfl _ _ _ _ _ _ ) (r' := Res.blk k10 #[.int .i64 start, .int .i64 gin, .int .i64 gout, .slice la beds.length lc, .slice none 0 0, .bool false]) (six_set hb _ _ _ _ _ _ ) (fun _ hk => .inl hk) (by first | (simp [upd, updv, ptrAt, h10, h4, hL, u10, u4]; done) | (simp [upd, updv, ptrAt, h10, h4, hL, u10, u4]; rfl))
  go_simp
  with_reducible refine hK _ ?_
  clear hK K
  refine lx_loud (by rfl) (by kernel_rfl) ?_ (fun K hK => ?_)
  · intro L w3 hL hd hcl hC hs
    obtain ⟨x, rfl⟩ := hC
    have hzs := x.size
    have h11 := hd 11 (by kernel_rfl)
    simp only [hL, h11, cond_true, cond_false] at hs
    rw [u11] at hs
    have hb : Blk x.world k11 #[.int .i64 0, .bool false, .bool false, .bool false] := hs.get 3 rfl
    have hlt := hb.lt
    have q0 := hb.cell 0 (v := .int .i64 0) rfl
    have f0 := hb.frozen 0
    have q1 := hb.cell 1 (v := .bool false) rfl
    have f1 := hb.frozen 1
    have q2 := hb.cell 2 (v := .bool false) rfl
    have f2 := hb.frozen 2
    have q3 := hb.cell 3 (v := .bool false) rfl
    have f3 := hb.frozen 3
    go_wp2
    exact aft_set x hlo trivial hs 3 rfl (four_chg (fun k => k = k11) _ rfl _ _ _ _ ) (r' := Res.blk k11 #[.int .i64 start, .bool false, .bool false, .bool false]) (four_set hb _ _ _ _ ) (fun _ hk => .inl hk) (by first | (simp [upd, updv, ptrAt, h11, hL, u11]; done) | (simp [upd, updv, ptrAt, h11, hL, u11]; rfl))
  go_simp
  with_reducible refine hK _ ?_
  clear hK K
  refine lx_nil ?_
  intro y hs
  rw [u4, u9, u10, u11] at hs
  have HS5 : Hid (Frm w3.heap.size [Res.own w3.heap.size 99 1 (.slice la beds.length lc) beds.length (beds.map (Value.int .i64)), Res.blk k9 #[.int .i64 1, .int .i64 0, .int .i64 0, .int .i64 0, .int .i64 0, .int .i64 0, .int .i64 0, .int .i64 0, .int .i64 0, .int .i64 0, .int .i64 0, .int .i64 0], Res.blk k10 #[.int .i64 start, .int .i64 gin, .int .i64 gout, .slice la beds.length lc, .slice none 0 0, .bool false], Res.blk k11 #[.int .i64 start, .bool false, .bool false, .bool false]] y.world) := Lib.hid hs
  have HX5 : Hid (Ext w3 y.world) := Lib.hid (Chg.to_ext (Ext.refl w3) y.chg (by rintro i ⟨_, h⟩; exact h))
  clear hs hT hne u2 u4 u9 u10 u11 x0 x1 x2 xl hlo
  generalize y.world = w5 at *
  clear y T
  have HF5 : Hid (Frm w3.heap.size (rxL start gin gout beds la lc k9 k10 k11 w3.heap.size (exa0 start) (.slice none 0 0)) w5) := Lib.hid ((HS5.out.more (r := Res.own w3.heap.size 3 1 (.slice none 0 0) 0 []) (World.ownsRow_nil _ _ _ _) (fun k h => by cases h)).more (r := Res.none) trivial (fun k h => h))
  have HX5w := Lib.hid (HX3.out.trans HX5.out)
  have HZ5 := Lib.hid (HZ3.out.ext HX5.out)
  have H35 := Lib.hid (H33.out.ext HX5.out)
  have HB3 : Hid (w.heap.size = B ∧ B + 1 + 1 < w3.heap.size) := Lib.hid ⟨HBB.out.symm, HZ3.out.k7.lt⟩
  have HLO5 : Hid (w3.heap.size ≤ w5.heap.size) := Lib.hid HX5.out.size
  obtain ⟨lo, hlo⟩ : ∃ y, y = w3.heap.size := ⟨_, rfl⟩
  rw [← hlo] at HF5 HB3 HLO5
  clear hlo HS5 HX5 HX3 HZ3 H33 HX2 HZ2 H32 HX1 HZ1 H3
  rename_i K0 b0
  refine b0 _ _ ?_
  clear b0
  exact rx_loop _ (by kernel_rfl) start gin gout beds ba bc vs va vc R la lc k9 k10 k11 lo B w w5 HR HV HCN HBD HE hvn HBB HF5 HX5w HZ5 H35 HB3 HLO5
end Go.Proofs.Ytmopadnkjlodnaa
