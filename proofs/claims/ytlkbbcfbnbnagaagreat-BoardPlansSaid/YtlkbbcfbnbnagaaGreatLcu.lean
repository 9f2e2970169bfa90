/-
  BoardPlans.
-/
import Derived.Test.YtlkbbcfbnbnagaaGreatLcv
import Derived.Test.YtlkbbcfbnbnagaaGreatLbd
namespace Go.Proofs.YtlkbbcfbnbnagaaGreat
open Go.RowKit Go.BigFrame
attribute [local go_sem] Later.cell Later.frozen Lat.cell Lat.frozen
set_option maxRecDepth 100000 in
set_option maxHeartbeats 16000000 in
theorem law_BoardPlans (a1 a2 a3 : Option Addr) (a4 a5 a6 : Nat) (b : Brd) (worn : List Int) (wks : List (List Int)) (turn lim : Int) (wa ka : Option Addr) (wc kc : Nat) (w : World) (h : BrdAt w ⟨a1, a2, a3, a4, a5, a6⟩ b) (hn : BrdNil ⟨a1, a2, a3, a4, a5, a6⟩ b) (hl : b.rings.length ≤ maxLen ∧ b.lines.length ≤ maxLen ∧ b.nums.length ≤ maxLen)
    (hw : CellsAt w .i64 wa worn) (hwn : wa = none → worn.length = 0 ∧ wc = 0) (hwl : worn.length ≤ maxLen) (hk : WkC w ka wks) (hkl : wks.length ≤ maxLen) (hks : ∀ wk ∈ wks, wk.length ≤ maxLen) :
    Calls Tryz.prog 3 #[.agg #[.int .i64 b.eye, .int .i64 b.bull, .slice a1 b.rings.length a4, .slice a2 b.lines.length a5, .slice a3 b.nums.length a6, .int .i64 b.wire], .agg #[.slice wa worn.length wc, .slice ka wks.length kc, .int .i64 turn, .int .i64 lim]] w fun e w' => e = .returned (.bool true) ∧ Ext w w' := by
  have HB := Lib.hid h
  have HKK := Lib.hid hk
  have HNM := Lib.hid hl.2.2
  have HN := Lib.hid hn
  have HW := Lib.hid hw
  have HWN := Lib.hid hwn
  have HG := Lib.hid (fun W (hx : Ext w W) => law_great ⟨a1, a2, a3, a4, a5, a6⟩ b W (h.ext hx) hl)
  have HBG := Lib.hid (fun W (hx : Ext w W) => law_big ⟨worn, wks, turn, lim⟩ wa ka wc kc W (hk.ext hx) hkl hwl hks)
  obtain ⟨ua, uc, hu1, hu2, hu3⟩ := law_week ⟨worn, wks, turn, lim⟩ wa ka wc kc w hk hkl
  have HBN := Lib.hid (fun h => big_not (x := ⟨worn, wks, turn, lim⟩) h)
  simp only at hu1 hu2 hu3 HBG HBN
  have HU := Lib.hid hu1
  have HUN := Lib.hid hu2
  have HWK := Lib.hid hu3
  have HKS : Hid ((∀ wk ∈ wks, wk.length ≤ 25) → (wks.headD []).length ≤ 25) := Lib.hid (fun h => by
    cases hx : wks with
    | nil => simp
    | cons y r => rw [hx] at h; exact h y (by simp))
  generalize wks.headD [] = wk at *
  generalize bigW ⟨worn, wks, turn, lim⟩ = bg at *
  unfold BrdV.cells at HG
  clear h hn hl hw hwn hk hkl hks hu1 hu2 hu3
  obtain ⟨q, hq⟩ : ∃ q, (greatB b || (bg || (decide (8 < b.nums.length) && decide (b.nums.length ≤ 20)))) = q := ⟨_, rfl⟩
  have HQ := Lib.hid hq
  have hnm : b.nums.length ≤ maxLen := HNM.out
  unfold maxLen at hnm
  clear hq
  go_enter Tryz.func3, Tryz.ntmps3
  go_upto_region 1 with fail
  obtain ⟨w0, hw0⟩ : ∃ y, y = (w.alloc (.cells #[.int .i64 b.eye, .int .i64 b.bull, .slice a1 b.rings.length a4, .slice a2 b.lines.length a5, .slice a3 b.nums.length a6, .int .i64 b.wire] 26)).alloc (.cells #[.slice wa worn.length wc, .slice ka wks.length kc, .int .i64 turn, .int .i64 lim] 29) := ⟨_, rfl⟩
  rw [← hw0]
  have HX : Hid (Ext w w0) := Lib.hid (by rw [hw0]; exact ((Ext.refl w).alloc _).alloc _)
  have HBB : Hid (Blk w0 w.heap.size #[.int .i64 b.eye, .int .i64 b.bull, .slice a1 b.rings.length a4, .slice a2 b.lines.length a5, .slice a3 b.nums.length a6, .int .i64 b.wire]) := Lib.hid (by rw [hw0]; exact (Blk.new w _ _).alloc _)
  have HBX : Hid (Blk w0 (w.heap.size + 1) #[.slice wa worn.length wc, .slice ka wks.length kc, .int .i64 turn, .int .i64 lim]) := Lib.hid (by rw [hw0]; exact Blk.at _ (by simp))
  clear hw0
  go_cut [40] from 23 to 40 (fun v wx => v = .bool q ∧ Ext w0 wx)
  case first =>
    have m0 := HBB.out.cell 0 (v := .int .i64 b.eye) rfl
    have m1 := HBB.out.cell 1 (v := .int .i64 b.bull) rfl
    have m2 := HBB.out.cell 2 (v := .slice a1 b.rings.length a4) rfl
    have m3 := HBB.out.cell 3 (v := .slice a2 b.lines.length a5) rfl
    have m4 := HBB.out.cell 4 (v := .slice a3 b.nums.length a6) rfl
    have m5 := HBB.out.cell 5 (v := .int .i64 b.wire) rfl
    have ml := HBB.out.lt
    have n0 := HBX.out.cell 0 (v := .slice wa worn.length wc) rfl
    have n1 := HBX.out.cell 1 (v := .slice ka wks.length kc) rfl
    have n2 := HBX.out.cell 2 (v := .int .i64 turn) rfl
    have n3 := HBX.out.cell 3 (v := .int .i64 lim) rfl
    have nl := HBX.out.lt
    go_wp2_with fail
    refine (HG.out _ HX.out).mono ?_
    rintro e w1 ⟨rfl, hx⟩
    have HX1 := Lib.hid hx
    replace HX := Lib.hid (HX.out.trans hx)
    replace HBB := Lib.hid (HBB.out.ext hx)
    replace HBX := Lib.hid (HBX.out.ext hx)
    clear hx m0 m1 m2 m3 m4 m5 ml n0 n1 n2 n3 nl
    have m0 := HBB.out.cell 0 (v := .int .i64 b.eye) rfl
    have m1 := HBB.out.cell 1 (v := .int .i64 b.bull) rfl
    have m2 := HBB.out.cell 2 (v := .slice a1 b.rings.length a4) rfl
    have m3 := HBB.out.cell 3 (v := .slice a2 b.lines.length a5) rfl
    have m4 := HBB.out.cell 4 (v := .slice a3 b.nums.length a6) rfl
    have m5 := HBB.out.cell 5 (v := .int .i64 b.wire) rfl
    have ml := HBB.out.lt
    have n0 := HBX.out.cell 0 (v := .slice wa worn.length wc) rfl
    have n1 := HBX.out.cell 1 (v := .slice ka wks.length kc) rfl
    have n2 := HBX.out.cell 2 (v := .int .i64 turn) rfl
    have n3 := HBX.out.cell 3 (v := .int .i64 lim) rfl
    have nl := HBX.out.lt
    cases hgr : greatB b
    case true =>
      obtain rfl : q = true := by rw [← HQ.out, hgr]; rfl
      go_wp2
      go_meet
      exact ⟨rfl, HX1.out⟩
    case false =>
    go_wp2_with fail
    refine (HBG.out _ HX.out).mono ?_
    rintro e w2 ⟨rfl, hx⟩
    replace HX1 := Lib.hid (HX1.out.trans hx)
    replace HX := Lib.hid (HX.out.trans hx)
    replace HBB := Lib.hid (HBB.out.ext hx)
    replace HBX := Lib.hid (HBX.out.ext hx)
    clear hx m0 m1 m2 m3 m4 m5 ml n0 n1 n2 n3 nl
    have m0 := HBB.out.cell 0 (v := .int .i64 b.eye) rfl
    have m1 := HBB.out.cell 1 (v := .int .i64 b.bull) rfl
    have m2 := HBB.out.cell 2 (v := .slice a1 b.rings.length a4) rfl
    have m3 := HBB.out.cell 3 (v := .slice a2 b.lines.length a5) rfl
    have m4 := HBB.out.cell 4 (v := .slice a3 b.nums.length a6) rfl
    have m5 := HBB.out.cell 5 (v := .int .i64 b.wire) rfl
    have ml := HBB.out.lt
    have n0 := HBX.out.cell 0 (v := .slice wa worn.length wc) rfl
    have n1 := HBX.out.cell 1 (v := .slice ka wks.length kc) rfl
    have n2 := HBX.out.cell 2 (v := .int .i64 turn) rfl
    have n3 := HBX.out.cell 3 (v := .int .i64 lim) rfl
    have nl := HBX.out.lt
    cases bg
    case true =>
      obtain rfl : q = true := by rw [← HQ.out, hgr]; rfl
      go_wp2
      go_meet
      exact ⟨rfl, HX1.out⟩
    case false =>
    by_cases h8 : 8 < b.nums.length
    case neg =>
      obtain rfl : q = false := by rw [← HQ.out, hgr, decide_eq_false h8]; rfl
      go_wp2
      go_meet
      exact ⟨rfl, HX1.out⟩
    case pos =>
    by_cases h20 : b.nums.length ≤ 20
    case pos =>
      obtain rfl : q = true := by rw [← HQ.out, hgr, decide_eq_true h8, decide_eq_true h20]; rfl
      go_wp2
      go_meet
      exact ⟨congrArg Value.bool (by simp; omega), HX1.out⟩
    case neg =>
      obtain rfl : q = false := by rw [← HQ.out, hgr, decide_eq_true h8, decide_eq_false h20]; rfl
      go_wp2
      go_meet
      exact ⟨congrArg Value.bool (by simp; omega), HX1.out⟩
  case rest =>
  obtain ⟨rfl, hx⟩ := hcut
  rename_i K0 b0
  refine b0 _ _ ?_
  rename World => w1
  replace HX := Lib.hid (HX.out.trans hx)
  replace HBB := Lib.hid (HBB.out.ext hx)
  replace HBX := Lib.hid (HBX.out.ext hx)
  clear hx
  have m0 := HBB.out.cell 0 (v := .int .i64 b.eye) rfl
  have m1 := HBB.out.cell 1 (v := .int .i64 b.bull) rfl
  have m2 := HBB.out.cell 2 (v := .slice a1 b.rings.length a4) rfl
  have m3 := HBB.out.cell 3 (v := .slice a2 b.lines.length a5) rfl
  have m4 := HBB.out.cell 4 (v := .slice a3 b.nums.length a6) rfl
  have m5 := HBB.out.cell 5 (v := .int .i64 b.wire) rfl
  have ml := HBB.out.lt
  have n0 := HBX.out.cell 0 (v := .slice wa worn.length wc) rfl
  have n1 := HBX.out.cell 1 (v := .slice ka wks.length kc) rfl
  have n2 := HBX.out.cell 2 (v := .int .i64 turn) rfl
  have n3 := HBX.out.cell 3 (v := .int .i64 lim) rfl
  have nl := HBX.out.lt
  have HKN := Lib.hid (fun W => law_known W)
  cases q
  case true =>
    go_wp2_with fail
    refine (HKN.out _).mono ?_
    rintro e w2 ⟨rfl, hx⟩
    go_wp2_with fail
    go_ret
    exact ⟨rfl, HX.out.trans hx⟩
  case false =>
  have hq2 := HQ.out
  simp only [Bool.or_eq_false_iff] at hq2
  obtain ⟨hgr, rfl, -⟩ := hq2
  have HSM := Lib.hid (small_of hgr)
  have HGT := Lib.hid (grt_of hgr)
  obtain ⟨hb1, hb2, hb3⟩ := HBN.out rfl
  have HL1 := Lib.hid hb1
  have HL2 := Lib.hid (HKS.out hb3)
  have HL3 := Lib.hid hb2
  have HL4 := Lib.hid hb3
  clear HBG HG hb1 hb2 hb3 HBN hgr HKS hwl HQ HNM hnm
  go_upto_region 3 with fail
  clear m0 m1 m2 m3 m4 m5 ml n0 n1 n2 n3 nl
  have m0 : ∀ y : Lat NoX w1, y.world.cell? ⟨w.heap.size, 0, none⟩ = some (.int .i64 b.eye) := fun y => (HBB.out.ext (Lat.ext0 y)).cell 0 rfl
  have m1 : ∀ y : Lat NoX w1, y.world.cell? ⟨w.heap.size, 1, none⟩ = some (.int .i64 b.bull) := fun y => (HBB.out.ext (Lat.ext0 y)).cell 1 rfl
  have m2 : ∀ y : Lat NoX w1, y.world.cell? ⟨w.heap.size, 2, none⟩ = some (.slice a1 b.rings.length a4) := fun y => (HBB.out.ext (Lat.ext0 y)).cell 2 rfl
  have m3 : ∀ y : Lat NoX w1, y.world.cell? ⟨w.heap.size, 3, none⟩ = some (.slice a2 b.lines.length a5) := fun y => (HBB.out.ext (Lat.ext0 y)).cell 3 rfl
  have m4 : ∀ y : Lat NoX w1, y.world.cell? ⟨w.heap.size, 4, none⟩ = some (.slice a3 b.nums.length a6) := fun y => (HBB.out.ext (Lat.ext0 y)).cell 4 rfl
  have m5 : ∀ y : Lat NoX w1, y.world.cell? ⟨w.heap.size, 5, none⟩ = some (.int .i64 b.wire) := fun y => (HBB.out.ext (Lat.ext0 y)).cell 5 rfl
  have ml := HBB.out.lt
  have n0 : ∀ y : Lat NoX w1, y.world.cell? ⟨(w.heap.size + 1), 0, none⟩ = some (.slice wa worn.length wc) := fun y => (HBX.out.ext (Lat.ext0 y)).cell 0 rfl
  have n1 : ∀ y : Lat NoX w1, y.world.cell? ⟨(w.heap.size + 1), 1, none⟩ = some (.slice ka wks.length kc) := fun y => (HBX.out.ext (Lat.ext0 y)).cell 1 rfl
  have n2 : ∀ y : Lat NoX w1, y.world.cell? ⟨(w.heap.size + 1), 2, none⟩ = some (.int .i64 turn) := fun y => (HBX.out.ext (Lat.ext0 y)).cell 2 rfl
  have n3 : ∀ y : Lat NoX w1, y.world.cell? ⟨(w.heap.size + 1), 3, none⟩ = some (.int .i64 lim) := fun y => (HBX.out.ext (Lat.ext0 y)).cell 3 rfl
  have nl := HBX.out.lt
  refine wp_region_ext (by kernel_rfl) [.no, .no, .rdi worn, .no, .no, .wks wks] (by kernel_rfl) (Nat.le_of_ble_eq_true rfl) ?_
  intro T hT hne u hu
  obtain ⟨va, vc, u2⟩ : SlcS worn.length (u 2) := hu 2 rfl
  obtain ⟨za, zc, u5⟩ : SlcS wks.length (u 5) := hu 5 rfl
  clear hu
  refine lx_next 2 (by rfl) (by decide) ?_
  dsimp only [List.take, List.drop]
  repeat (go_big_quiet_step (fail))
  refine wpQuiet_nil ?_
  refine lx_loud (by rfl) (by kernel_rfl) ?_ (fun K hK => ?_)
  · intro L w3 hL hd hcl hC hs
    obtain ⟨y, rfl⟩ := hC
    have hxy := Lat.ext0 y

    go_wp2_with fail
    refine (calls_ints2 worn wa wc _ (HW.out.ext (HX.out.trans hxy)) HWN.out (by have := HL1.out; omega)).mono ?_
    rintro e w' ⟨xa, xc, rfl, hri, hx⟩
    have HRK := Lib.hid (rik_call (i := 2) y hs ⟨xa, xc, rfl⟩ hx hri)
    clear hs
    go_wp2
    exact HRK.out
  rw [u2]
  go_simp
  with_reducible refine hK _ ?_
  clear hK K
  refine lx_next 2 (by rfl) (by decide) ?_
  dsimp only [List.take, List.drop]
  repeat (go_big_quiet_step (fail))
  refine wpQuiet_nil ?_
  refine lx_loud (by rfl) (by kernel_rfl) ?_ (fun K hK => ?_)
  · intro L w3 hL hd hcl hC hs
    obtain ⟨y, rfl⟩ := hC
    have hxy := Lat.ext0 y

    go_wp2_with fail
    refine (calls_weeks2 wks ka kc _ (HKK.out.ext (HX.out.trans hxy)) (by have := HL3.out; omega) (fun wk h => by have := HL4.out wk h; omega)).mono ?_
    rintro e w' ⟨xa, xc, rfl, hri, hx⟩
    have HRK := Lib.hid (rik_call (i := 5) y hs ⟨xa, xc, rfl⟩ hx hri)
    clear hs
    go_wp2
    exact HRK.out
  rw [u5]
  go_simp
  with_reducible refine hK _ ?_
  clear hK K
  refine lx_next 2 (by rfl) (by decide) ?_
  dsimp only [List.take, List.drop]
  repeat (go_big_quiet_step (fail))
  refine wpQuiet_nil ?_
  refine lx_nil ?_
  intro y hs
  have hxy := Lat.ext0 y
  have hr2 := hs 2 rfl rfl
  rw [u2] at hr2
  have HWC : Hid (RdI S0 y.world (.slice va worn.length vc) worn) := Lib.hid hr2
  have hr5 := hs 5 rfl rfl
  rw [u5] at hr5
  have HKC : Hid (WksAt S0 y.world (.slice za wks.length zc) wks) := Lib.hid hr5
  clear hs hT hne u2 u5 hr2 hr5
  generalize y.world = w2 at *
  replace HX := Lib.hid (HX.out.trans hxy)
  replace HBB := Lib.hid (HBB.out.ext hxy)
  replace HBX := Lib.hid (HBX.out.ext hxy)
  clear hxy m0 m1 m2 m3 m4 m5 ml n0 n1 n2 n3 nl
  have m0 := HBB.out.cell 0 (v := .int .i64 b.eye) rfl
  have m1 := HBB.out.cell 1 (v := .int .i64 b.bull) rfl
  have m2 := HBB.out.cell 2 (v := .slice a1 b.rings.length a4) rfl
  have m3 := HBB.out.cell 3 (v := .slice a2 b.lines.length a5) rfl
  have m4 := HBB.out.cell 4 (v := .slice a3 b.nums.length a6) rfl
  have m5 := HBB.out.cell 5 (v := .int .i64 b.wire) rfl
  have ml := HBB.out.lt
  have n0 := HBX.out.cell 0 (v := .slice wa worn.length wc) rfl
  have n1 := HBX.out.cell 1 (v := .slice ka wks.length kc) rfl
  have n2 := HBX.out.cell 2 (v := .int .i64 turn) rfl
  have n3 := HBX.out.cell 3 (v := .int .i64 lim) rfl
  have nl := HBX.out.lt
  go_wp2_with fail
  refine (law_own ⟨a1, a2, a3, a4, a5, a6⟩ b _ (HB.out.ext HX.out) HN.out HSM.out).mono ?_
  rintro e w3 ⟨⟨p1, p2, p3, p4, p5, p6⟩, rfl, hB, -, -, hx⟩
  have HIB := Lib.hid hB
  unfold BrdV.cells
  clear hB
  replace HX := Lib.hid (HX.out.trans hx)
  replace HBB := Lib.hid (HBB.out.ext hx)
  replace HBX := Lib.hid (HBX.out.ext hx)
  replace HWC := Lib.hid (HWC.out.ext hx)
  replace HKC := Lib.hid (HKC.out.ext hx)
  clear hx m0 m1 m2 m3 m4 m5 ml n0 n1 n2 n3 nl
  have m0 := HBB.out.cell 0 (v := .int .i64 b.eye) rfl
  have m1 := HBB.out.cell 1 (v := .int .i64 b.bull) rfl
  have m2 := HBB.out.cell 2 (v := .slice a1 b.rings.length a4) rfl
  have m3 := HBB.out.cell 3 (v := .slice a2 b.lines.length a5) rfl
  have m4 := HBB.out.cell 4 (v := .slice a3 b.nums.length a6) rfl
  have m5 := HBB.out.cell 5 (v := .int .i64 b.wire) rfl
  have ml := HBB.out.lt
  have n0 := HBX.out.cell 0 (v := .slice wa worn.length wc) rfl
  have n1 := HBX.out.cell 1 (v := .slice ka wks.length kc) rfl
  have n2 := HBX.out.cell 2 (v := .int .i64 turn) rfl
  have n3 := HBX.out.cell 3 (v := .int .i64 lim) rfl
  have nl := HBX.out.lt
  have HPN := Lib.hid (fun W hx hw hk => brd_Plan ⟨p1, p2, p3, p4, p5, p6⟩ b worn wks va za vc zc W hx HSM.out hw hk (by have := HL3.out; omega))
  unfold BrdV.cells at HPN
  obtain ⟨pt, pm, pe, ha⟩ : ∃ pt pm pe, planR b worn wks = (pt, pm, pe) := ⟨_, _, _, rfl⟩
  rw [ha] at HPN
  have HPR := Lib.hid ha
  clear ha
  go_wp2_with fail
  refine (HPN.out _ HIB.out HWC.out HKC.out).mono ?_
  rintro e w4 ⟨u, rfl, hr, hx⟩
  obtain ⟨ya, yc, rfl⟩ := hr.opens
  have HY := Lib.hid hr
  clear hr HPN HIB
  replace HX := Lib.hid (HX.out.trans hx)
  replace HBB := Lib.hid (HBB.out.ext hx)
  replace HBX := Lib.hid (HBX.out.ext hx)
  replace HWC := Lib.hid (HWC.out.ext hx)
  replace HKC := Lib.hid (HKC.out.ext hx)
  clear hx m0 m1 m2 m3 m4 m5 ml n0 n1 n2 n3 nl
  have m0 := HBB.out.cell 0 (v := .int .i64 b.eye) rfl
  have m1 := HBB.out.cell 1 (v := .int .i64 b.bull) rfl
  have m2 := HBB.out.cell 2 (v := .slice a1 b.rings.length a4) rfl
  have m3 := HBB.out.cell 3 (v := .slice a2 b.lines.length a5) rfl
  have m4 := HBB.out.cell 4 (v := .slice a3 b.nums.length a6) rfl
  have m5 := HBB.out.cell 5 (v := .int .i64 b.wire) rfl
  have ml := HBB.out.lt
  have n0 := HBX.out.cell 0 (v := .slice wa worn.length wc) rfl
  have n1 := HBX.out.cell 1 (v := .slice ka wks.length kc) rfl
  have n2 := HBX.out.cell 2 (v := .int .i64 turn) rfl
  have n3 := HBX.out.cell 3 (v := .int .i64 lim) rfl
  have nl := HBX.out.lt
  go_upto_region 5 with fail
  clear m0 m1 m2 m3 m4 m5 ml n0 n1 n2 n3 nl
  have m0 : ∀ y : Lat NoX w4, y.world.cell? ⟨w.heap.size, 0, none⟩ = some (.int .i64 b.eye) := fun y => (HBB.out.ext (Lat.ext0 y)).cell 0 rfl
  have m1 : ∀ y : Lat NoX w4, y.world.cell? ⟨w.heap.size, 1, none⟩ = some (.int .i64 b.bull) := fun y => (HBB.out.ext (Lat.ext0 y)).cell 1 rfl
  have m2 : ∀ y : Lat NoX w4, y.world.cell? ⟨w.heap.size, 2, none⟩ = some (.slice a1 b.rings.length a4) := fun y => (HBB.out.ext (Lat.ext0 y)).cell 2 rfl
  have m3 : ∀ y : Lat NoX w4, y.world.cell? ⟨w.heap.size, 3, none⟩ = some (.slice a2 b.lines.length a5) := fun y => (HBB.out.ext (Lat.ext0 y)).cell 3 rfl
  have m4 : ∀ y : Lat NoX w4, y.world.cell? ⟨w.heap.size, 4, none⟩ = some (.slice a3 b.nums.length a6) := fun y => (HBB.out.ext (Lat.ext0 y)).cell 4 rfl
  have m5 : ∀ y : Lat NoX w4, y.world.cell? ⟨w.heap.size, 5, none⟩ = some (.int .i64 b.wire) := fun y => (HBB.out.ext (Lat.ext0 y)).cell 5 rfl
  have ml := HBB.out.lt
  have n0 : ∀ y : Lat NoX w4, y.world.cell? ⟨(w.heap.size + 1), 0, none⟩ = some (.slice wa worn.length wc) := fun y => (HBX.out.ext (Lat.ext0 y)).cell 0 rfl
  have n1 : ∀ y : Lat NoX w4, y.world.cell? ⟨(w.heap.size + 1), 1, none⟩ = some (.slice ka wks.length kc) := fun y => (HBX.out.ext (Lat.ext0 y)).cell 1 rfl
  have n2 : ∀ y : Lat NoX w4, y.world.cell? ⟨(w.heap.size + 1), 2, none⟩ = some (.int .i64 turn) := fun y => (HBX.out.ext (Lat.ext0 y)).cell 2 rfl
  have n3 : ∀ y : Lat NoX w4, y.world.cell? ⟨(w.heap.size + 1), 3, none⟩ = some (.int .i64 lim) := fun y => (HBX.out.ext (Lat.ext0 y)).cell 3 rfl
  have nl := HBX.out.lt
  obtain ⟨la, le, ha⟩ : ∃ la le, lastR b worn wk lim = (la, le) := ⟨_, _, rfl⟩
  have HLR := Lib.hid ha
  have HLA := Lib.hid (fun W (q1 q2 q3 : Option Addr) (q4 q5 q6 : Nat) (ga : Option Addr) (gc : Nat) (hx : BrdAt W ⟨q1, q2, q3, q4, q5, q6⟩ b) hw (hk : RdI S0 W (.slice ga wk.length gc) wk) => brd_Last ⟨q1, q2, q3, q4, q5, q6⟩ b worn wk va ga vc gc lim W hx HSM.out hw hk)
  unfold BrdV.cells at HLA
  rw [ha] at HLA
  clear ha
  refine wp_region_ext (by kernel_rfl) [.no, .boa b b, .no, .no, .val (.slice ua wk.length uc), .rdi wk, .no, .no, .val (.tuple #[.int .i64 la, .int .i64 le])] (by kernel_rfl) (Nat.le_of_ble_eq_true rfl) ?_
  intro T hT hne u hu
  obtain ⟨o1, o2, o3, o4, o5, o6, u1⟩ : BoaS b (u 1) := hu 1 rfl
  have u4 : u 4 = .slice ua wk.length uc := hu 4 rfl
  obtain ⟨ga, gc, u5⟩ : SlcS wk.length (u 5) := hu 5 rfl
  have u8 : u 8 = .tuple #[.int .i64 la, .int .i64 le] := hu 8 rfl
  clear hu
  refine lx_next 1 (by rfl) (by decide) ?_
  dsimp only [List.take, List.drop]
  repeat (go_big_quiet_step (fail))
  refine wpQuiet_nil ?_
  refine lx_loud (by rfl) (by kernel_rfl) ?_ (fun K hK => ?_)
  · intro L w3 hL hd hcl hC hs
    obtain ⟨y, rfl⟩ := hC
    have hxy := Lat.ext0 y

    go_wp2_with fail
    refine (law_own ⟨a1, a2, a3, a4, a5, a6⟩ b _ ((HB.out.ext HX.out).ext hxy) HN.out HSM.out).mono ?_
    rintro e w' ⟨v', rfl, hB', hN', -, hx⟩
    have HRK := Lib.hid (rik_call (i := 1) y hs ⟨_, _, _, _, _, _, rfl⟩ hx ⟨_, rfl, hB', hN'⟩)
    clear hs
    go_wp2
    exact HRK.out
  rw [u1]
  go_simp
  with_reducible refine hK _ ?_
  clear hK K
  refine lx_next 2 (by rfl) (by decide) ?_
  dsimp only [List.take, List.drop]
  repeat (go_big_quiet_step (fail))
  refine wpQuiet_nil ?_
  refine lx_loud (by rfl) (by kernel_rfl) ?_ (fun K hK => ?_)
  · intro L w3 hL hd hcl hC hs
    obtain ⟨y, rfl⟩ := hC
    have hxy := Lat.ext0 y

    go_wp2_with fail
    refine (HWK.out _ (HX.out.trans hxy)).mono ?_
    rintro e w' ⟨rfl, hx⟩
    have HRK := Lib.hid (rik_call (i := 4) y hs rfl hx trivial)
    clear hs
    go_wp2
    exact HRK.out
  rw [u4]
  go_simp
  with_reducible refine hK _ ?_
  clear hK K
  refine lx_loud (by rfl) (by kernel_rfl) ?_ (fun K hK => ?_)
  · intro L w3 hL hd hcl hC hs
    obtain ⟨y, rfl⟩ := hC
    have hxy := Lat.ext0 y

    go_wp2_with fail
    refine (calls_ints2 wk ua uc _ (HU.out.ext (HX.out.trans hxy)) HUN.out (by have := HL2.out; omega)).mono ?_
    rintro e w' ⟨xa, xc, rfl, hri, hx⟩
    have HRK := Lib.hid (rik_call (i := 5) y hs ⟨xa, xc, rfl⟩ hx hri)
    clear hs
    go_wp2
    exact HRK.out
  rw [u5]
  go_simp
  with_reducible refine hK _ ?_
  clear hK K
  refine lx_next 2 (by rfl) (by decide) ?_
  dsimp only [List.take, List.drop]
  repeat (go_big_quiet_step (fail))
  refine wpQuiet_nil ?_
  refine lx_loud (by rfl) (by kernel_rfl) ?_ (fun K hK => ?_)
  · intro L w3 hL hd hcl hC hs
    obtain ⟨y, rfl⟩ := hC
    have hxy := Lat.ext0 y
    have h1 := hs 1 rfl (hd 1 (by kernel_rfl))
    rw [u1] at h1
    obtain ⟨hB1, hN1⟩ := BoaT.at h1
    have h5 := hs 5 rfl (hd 5 (by kernel_rfl))
    rw [u5] at h5
    go_wp2_with fail
    refine (HLA.out _ _ _ _ _ _ _ _ _ hB1 (HWC.out.ext hxy) h5).mono ?_
    rintro e w' ⟨rfl, hx⟩
    have HRK := Lib.hid (rik_call (i := 8) y hs rfl hx trivial)
    clear hs
    go_wp2
    exact HRK.out
  rw [u8]
  go_simp
  with_reducible refine hK _ ?_
  clear hK K
  refine lx_next 5 (by rfl) (by decide) ?_
  dsimp only [List.take, List.drop]
  repeat (go_big_quiet_step (fail))
  refine wpQuiet_nil ?_
  refine lx_nil ?_
  intro y hs
  have hxy := Lat.ext0 y
  clear hs hT hne u1 u4 u5 u8 HLA
  generalize y.world = w5 at *
  replace HX := Lib.hid (HX.out.trans hxy)
  replace HBB := Lib.hid (HBB.out.ext hxy)
  replace HBX := Lib.hid (HBX.out.ext hxy)
  replace HWC := Lib.hid (HWC.out.ext hxy)
  replace HKC := Lib.hid (HKC.out.ext hxy)
  replace HY := Lib.hid (HY.out.ext hxy)
  clear hxy m0 m1 m2 m3 m4 m5 ml n0 n1 n2 n3 nl
  have m0 := HBB.out.cell 0 (v := .int .i64 b.eye) rfl
  have m1 := HBB.out.cell 1 (v := .int .i64 b.bull) rfl
  have m2 := HBB.out.cell 2 (v := .slice a1 b.rings.length a4) rfl
  have m3 := HBB.out.cell 3 (v := .slice a2 b.lines.length a5) rfl
  have m4 := HBB.out.cell 4 (v := .slice a3 b.nums.length a6) rfl
  have m5 := HBB.out.cell 5 (v := .int .i64 b.wire) rfl
  have ml := HBB.out.lt
  have n0 := HBX.out.cell 0 (v := .slice wa worn.length wc) rfl
  have n1 := HBX.out.cell 1 (v := .slice ka wks.length kc) rfl
  have n2 := HBX.out.cell 2 (v := .int .i64 turn) rfl
  have n3 := HBX.out.cell 3 (v := .int .i64 lim) rfl
  have nl := HBX.out.lt
  have HAL := Lib.hid (fun W ha hb => law_alike worn worn va wa vc wc W ha hb (by have := HL1.out; omega))
  rw [decide_eq_true rfl] at HAL
  go_wp2_with fail
  refine (HAL.out _ (rd_cells HWC.out) (HW.out.ext HX.out)).mono ?_
  rintro e w6 ⟨rfl, hx⟩
  clear HAL
  replace HX := Lib.hid (HX.out.trans hx)
  replace HBB := Lib.hid (HBB.out.ext hx)
  replace HBX := Lib.hid (HBX.out.ext hx)
  replace HKC := Lib.hid (HKC.out.ext hx)
  replace HY := Lib.hid (HY.out.ext hx)
  clear hx m0 m1 m2 m3 m4 m5 ml n0 n1 n2 n3 nl
  have m0 := HBB.out.cell 0 (v := .int .i64 b.eye) rfl
  have m1 := HBB.out.cell 1 (v := .int .i64 b.bull) rfl
  have m2 := HBB.out.cell 2 (v := .slice a1 b.rings.length a4) rfl
  have m3 := HBB.out.cell 3 (v := .slice a2 b.lines.length a5) rfl
  have m4 := HBB.out.cell 4 (v := .slice a3 b.nums.length a6) rfl
  have m5 := HBB.out.cell 5 (v := .int .i64 b.wire) rfl
  have ml := HBB.out.lt
  have n0 := HBX.out.cell 0 (v := .slice wa worn.length wc) rfl
  have n1 := HBX.out.cell 1 (v := .slice ka wks.length kc) rfl
  have n2 := HBX.out.cell 2 (v := .int .i64 turn) rfl
  have n3 := HBX.out.cell 3 (v := .int .i64 lim) rfl
  have nl := HBX.out.lt
  clear HWC
  go_wp2
  go_loopw [12] (fun i wr => ∃ k : Nat, k ≤ wks.length ∧ i = .int .i64 k ∧ Ext w6 wr) (fun i _ => wks.length - (intOf i).toNat)
  case atStart => exact ⟨0, Nat.zero_le _, rfl, Ext.refl _⟩
  case round =>
    obtain ⟨k, hk, rfl, hx⟩ := hrel
    have HX6 := Lib.hid hx
    have hl4 : wks.length ≤ 4 := HL3.out
    replace HX := Lib.hid (HX.out.trans hx)
    replace HBB := Lib.hid (HBB.out.ext hx)
    replace HBX := Lib.hid (HBX.out.ext hx)
    replace HKC := Lib.hid (HKC.out.ext hx)
    replace HY := Lib.hid (HY.out.ext hx)
    clear hx m0 m1 m2 m3 m4 m5 ml n0 n1 n2 n3 nl
    have m0 := HBB.out.cell 0 (v := .int .i64 b.eye) rfl
    have m1 := HBB.out.cell 1 (v := .int .i64 b.bull) rfl
    have m2 := HBB.out.cell 2 (v := .slice a1 b.rings.length a4) rfl
    have m3 := HBB.out.cell 3 (v := .slice a2 b.lines.length a5) rfl
    have m4 := HBB.out.cell 4 (v := .slice a3 b.nums.length a6) rfl
    have m5 := HBB.out.cell 5 (v := .int .i64 b.wire) rfl
    have ml := HBB.out.lt
    have n0 := HBX.out.cell 0 (v := .slice wa worn.length wc) rfl
    have n1 := HBX.out.cell 1 (v := .slice ka wks.length kc) rfl
    have n2 := HBX.out.cell 2 (v := .int .i64 turn) rfl
    have n3 := HBX.out.cell 3 (v := .int .i64 lim) rfl
    have nl := HBX.out.lt
    by_cases hlt : k < wks.length
    · obtain ⟨b1, o1, c1, c2, e1, l1, x1, r1⟩ := WksAt.get HKC.out k hlt
      subst e1
      obtain ⟨b2, o2, d1, d2, e2, x2, r2, -⟩ := (HKK.out.ext HX.out) k hlt
      subst e2
      have l2 := lt_of_cell x2
      simp only at l2
      have HAL := Lib.hid (fun W (hX : Ext wr W) => law_alike wks[k] wks[k] c1 d1 c2 d2 W ((rd_cells r1).ext hX) (r2.ext hX) (by have := HL4.out _ (List.getElem_mem hlt); omega))
      rw [decide_eq_true rfl] at HAL
      generalize wks[k] = wx at *
      clear r1 r2
      go_upto_region 11 with fail
      refine wp_region_later (by kernel_rfl) (by kernel_rfl) ?_
      repeat (go_big_quiet_step (refine Calls.later (HAL.out _ (Later.ext _))))
      refine wpQuiet_nil ?_
      intro w7 hw7
      obtain ⟨⟨w7, hx7⟩, rfl⟩ := hw7
      have HX7 := Lib.hid (HX6.out.trans hx7)
      clear HAL hx7
      clear m0 m1 m2 m3 m4 m5 ml n0 n1 n2 n3 nl
      go_wp2
      go_roundw
      case rel => exact ⟨k + 1, by omega, by go_num, HX7.out⟩
      case measure => simp [intOf]; omega
    · obtain rfl : wks.length = k := by omega
      obtain ⟨w7, rfl⟩ : ∃ y, y = wr := ⟨_, rfl⟩
      clear HX6
      go_upto_region 13 with fail
      have HCK := Lib.hid (fun W (hx : Ext w7 W) => ref_check a1 a2 a3 a4 a5 a6 b W (HB.out.ext (HX.out.trans hx)) HSM.out HGT.out)
      refine wp_region_later (by kernel_rfl) (by kernel_rfl) ?_
      repeat (go_big_quiet_step (refine Calls.later (HCK.out _ (Later.ext _))))
      refine wpQuiet_nil ?_
      intro w12 hw12
      obtain ⟨⟨w12, hx⟩, rfl⟩ := hw12
      clear HCK
      replace HX := Lib.hid (HX.out.trans hx)
      replace HBB := Lib.hid (HBB.out.ext hx)
      replace HBX := Lib.hid (HBX.out.ext hx)
      replace HY := Lib.hid (HY.out.ext hx)
      clear hx m0 m1 m2 m3 m4 m5 ml n0 n1 n2 n3 nl
      have m0 := HBB.out.cell 0 (v := .int .i64 b.eye) rfl
      have m1 := HBB.out.cell 1 (v := .int .i64 b.bull) rfl
      have m2 := HBB.out.cell 2 (v := .slice a1 b.rings.length a4) rfl
      have m3 := HBB.out.cell 3 (v := .slice a2 b.lines.length a5) rfl
      have m4 := HBB.out.cell 4 (v := .slice a3 b.nums.length a6) rfl
      have m5 := HBB.out.cell 5 (v := .int .i64 b.wire) rfl
      have ml := HBB.out.lt
      have n0 := HBX.out.cell 0 (v := .slice wa worn.length wc) rfl
      have n1 := HBX.out.cell 1 (v := .slice ka wks.length kc) rfl
      have n2 := HBX.out.cell 2 (v := .int .i64 turn) rfl
      have n3 := HBX.out.cell 3 (v := .int .i64 lim) rfl
      have nl := HBX.out.lt
      obtain ⟨ec, hec⟩ : ∃ x, errB b = x := ⟨_, rfl⟩
      have HEC := Lib.hid hec
      rw [hec]
      clear hec
      have hee : (ec == ec) = true := by simp
      cases d0 : (ec != 0)
      case true =>
        have d2 : (ec == 0) = false := by simpa using d0
        have h0 : errB b ≠ 0 := by rw [HEC.out]; simpa using d0
        obtain ⟨e1, e2⟩ := plan_err (worn := worn) (wk := wk) (wks := wks) (lim := lim) h0
        rw [HPR.out, HEC.out] at e1
        rw [HLR.out, HEC.out] at e2
        obtain ⟨rfl, rfl, rfl⟩ : [] = pt ∧ 0 = pm ∧ ec = pe := by simpa [eq_comm] using e1
        obtain ⟨rfl, rfl⟩ : 0 = la ∧ ec = le := by simpa [eq_comm] using e2
        have hen : (ec != ec) = false := by simp
        clear e1 e2 h0
        go_wp2_with fail
        refine (HKN.out _).mono ?_
        rintro e w14 ⟨rfl, hx⟩
        go_wp2_with fail
        go_ret
        exact ⟨rfl, HX.out.trans hx⟩
      case false =>
      obtain rfl : 0 = ec := (show ec = 0 by simpa using d0).symm
      have HNL := Lib.hid (errB_len HSM.out HEC.out)
      clear d0 hee HGT
      by_cases hlong : 3 < wks.length
      case pos =>
        have e1 := plan_long (worn := worn) HEC.out hlong
        rw [HPR.out] at e1
        obtain ⟨rfl, rfl, rfl⟩ : [] = pt ∧ 0 = pm ∧ 5 = pe := by simpa [eq_comm] using e1
        clear e1
        go_upto_if 153 with fail
        go_cut [] from 300 to 300 (fun wx => wx = w12)
        case first =>
          go_wp2
          go_meet
          exact rfl
        case rest =>
          obtain rfl := hcut
          rename_i K0 b0
          refine b0 _ _ ?_
          exact plans_tail _ (by kernel_rfl) a1 a2 a3 a4 a5 a6 b worn wk wks turn lim la le wa ka ua _ kc uc w _ HX HEC HNL HL1 HLR HW HU HUN HWK HBB HBX
      case neg =>
      obtain ⟨fm, hfm⟩ : ∃ x, formB b.nums.length worn wks = x := ⟨_, rfl⟩
      have HFM := Lib.hid hfm
      have HFO := Lib.hid (fun W (hX : Ext w W) => ref_form b.nums.length worn wks wa ka wc kc W (HW.out.ext hX) (HKK.out.ext hX) (by have := HNL.out; omega) (by have := HL3.out; omega))
      rw [hfm] at HFO
      clear hfm
      go_wp2_with fail
      refine (HFO.out _ HX.out).mono ?_
      rintro e w13 ⟨rfl, hx⟩
      clear HFO
      replace HX := Lib.hid (HX.out.trans hx)
      replace HBB := Lib.hid (HBB.out.ext hx)
      replace HBX := Lib.hid (HBX.out.ext hx)
      replace HY := Lib.hid (HY.out.ext hx)
      clear hx m0 m1 m2 m3 m4 m5 ml n0 n1 n2 n3 nl
      have m0 := HBB.out.cell 0 (v := .int .i64 b.eye) rfl
      have m1 := HBB.out.cell 1 (v := .int .i64 b.bull) rfl
      have m2 := HBB.out.cell 2 (v := .slice a1 b.rings.length a4) rfl
      have m3 := HBB.out.cell 3 (v := .slice a2 b.lines.length a5) rfl
      have m4 := HBB.out.cell 4 (v := .slice a3 b.nums.length a6) rfl
      have m5 := HBB.out.cell 5 (v := .int .i64 b.wire) rfl
      have ml := HBB.out.lt
      have n0 := HBX.out.cell 0 (v := .slice wa worn.length wc) rfl
      have n1 := HBX.out.cell 1 (v := .slice ka wks.length kc) rfl
      have n2 := HBX.out.cell 2 (v := .int .i64 turn) rfl
      have n3 := HBX.out.cell 3 (v := .int .i64 lim) rfl
      have nl := HBX.out.lt
      have hff : (fm != fm) = false := by simp
      cases d1 : (fm != 0)
      case true =>
        have d2 : (fm == 0) = false := by simpa using d1
        have hf : formB b.nums.length worn wks ≠ 0 := by rw [HFM.out]; simpa using d1
        have e1 := plan_form HEC.out hlong hf
        rw [HPR.out, HFM.out] at e1
        obtain ⟨rfl, rfl, rfl⟩ : [] = pt ∧ 0 = pm ∧ fm = pe := by simpa [eq_comm] using e1
        clear e1 hf
        go_upto_if 153 with fail
        go_cut [] from 300 to 300 (fun wx => wx = w13)
        case first =>
          go_wp2
          go_meet
          exact rfl
        case rest =>
          obtain rfl := hcut
          rename_i K0 b0
          refine b0 _ _ ?_
          exact plans_tail _ (by kernel_rfl) a1 a2 a3 a4 a5 a6 b worn wk wks turn lim la le wa ka ua _ kc uc w _ HX HEC HNL HL1 HLR HW HU HUN HWK HBB HBX
      case false =>
      obtain rfl : 0 = fm := (show fm = 0 by simpa using d1).symm
      clear d1 hff
      obtain ⟨hg1, hg2, hg3, -⟩ := form_good HFM.out
      have hg2' : wksOk worn.length wks := by rw [hg1]; exact hg2
      have hg0 : 0 < worn.length := by have := HNL.out; omega
      obtain ⟨p, hp⟩ : ∃ p, bestL (plansL wks [] worn) = some p := by
        cases h : bestL (plansL wks [] worn) with
        | none => exact absurd (bestL_none h) (plansL_ne wks [] worn hg0 hg2')
        | some p => exact ⟨p, rfl⟩
      have hpo := plan_of HEC.out hlong HFM.out hp
      rw [HPR.out] at hpo
      have HPL := Lib.hid (fun W (hX : Ext w W) => calls_rplan worn wks wa ka wc kc W hp (HW.out.ext hX) (HKK.out.ext hX) hg0 HL1.out HL3.out hg2' (fun y hy => by have := hg3 y hy; omega))
      have HPN : Hid (p.1.length ≤ 4) := Lib.hid (by rw [plansL_turns wks [] worn p (bestL_mem hp)]; have := HL3.out; simp; omega)
      obtain ⟨ps, pw⟩ := p
      simp only at hpo HPL HPN
      obtain ⟨M, hM⟩ : ∃ x, maxL pw = x := ⟨_, rfl⟩
      rw [hM] at hpo HPL
      have HPO := Lib.hid hpo
      clear hg1 hg2 hg3 hg2' hg0 hp hpo hM
      go_wp2_with fail
      refine (HPL.out _ HX.out).mono ?_
      rintro e w14 ⟨ra, rc, rfl, hrc, hx⟩
      have HRC := Lib.hid hrc
      clear HPL hrc
      replace HX := Lib.hid (HX.out.trans hx)
      replace HBB := Lib.hid (HBB.out.ext hx)
      replace HBX := Lib.hid (HBX.out.ext hx)
      replace HY := Lib.hid (HY.out.ext hx)
      clear hx m0 m1 m2 m3 m4 m5 ml n0 n1 n2 n3 nl
      have m0 := HBB.out.cell 0 (v := .int .i64 b.eye) rfl
      have m1 := HBB.out.cell 1 (v := .int .i64 b.bull) rfl
      have m2 := HBB.out.cell 2 (v := .slice a1 b.rings.length a4) rfl
      have m3 := HBB.out.cell 3 (v := .slice a2 b.lines.length a5) rfl
      have m4 := HBB.out.cell 4 (v := .slice a3 b.nums.length a6) rfl
      have m5 := HBB.out.cell 5 (v := .int .i64 b.wire) rfl
      have ml := HBB.out.lt
      have n0 := HBX.out.cell 0 (v := .slice wa worn.length wc) rfl
      have n1 := HBX.out.cell 1 (v := .slice ka wks.length kc) rfl
      have n2 := HBX.out.cell 2 (v := .int .i64 turn) rfl
      have n3 := HBX.out.cell 3 (v := .int .i64 lim) rfl
      have nl := HBX.out.lt
      by_cases hM : 1000000000 < M
      case pos =>
        have e1 := HPO.out
        rw [if_pos hM] at e1
        obtain ⟨rfl, rfl, rfl⟩ : [] = pt ∧ 0 = pm ∧ 8 = pe := by simpa [eq_comm] using e1
        clear e1
        go_upto_if 153 with fail
        go_cut [] from 300 to 300 (fun wx => wx = w14)
        case first =>
          go_wp2
          go_meet
          exact rfl
        case rest =>
          obtain rfl := hcut
          rename_i K0 b0
          refine b0 _ _ ?_
          exact plans_tail _ (by kernel_rfl) a1 a2 a3 a4 a5 a6 b worn wk wks turn lim la le wa ka ua _ kc uc w _ HX HEC HNL HL1 HLR HW HU HUN HWK HBB HBX
      case neg =>
        have e1 := HPO.out
        rw [if_neg hM] at e1
        obtain ⟨rfl, rfl, rfl⟩ : ps = pt ∧ M = pm ∧ 0 = pe := by simpa [eq_comm] using e1
        have hMM : (M != M) = false := by simp
        have HAL := Lib.hid (fun W ha hb => law_alike ps ps ya ra yc rc W ha hb (by have := HPN.out; omega))
        rw [decide_eq_true rfl] at HAL
        clear e1
        go_wp2_with fail
        refine (HAL.out _ (rd_cells HY.out) HRC.out).mono ?_
        rintro e w15 ⟨rfl, hx⟩
        clear HAL HRC
        replace HX := Lib.hid (HX.out.trans hx)
        replace HBB := Lib.hid (HBB.out.ext hx)
        replace HBX := Lib.hid (HBX.out.ext hx)
        clear hx m0 m1 m2 m3 m4 m5 ml n0 n1 n2 n3 nl
        have m0 := HBB.out.cell 0 (v := .int .i64 b.eye) rfl
        have m1 := HBB.out.cell 1 (v := .int .i64 b.bull) rfl
        have m2 := HBB.out.cell 2 (v := .slice a1 b.rings.length a4) rfl
        have m3 := HBB.out.cell 3 (v := .slice a2 b.lines.length a5) rfl
        have m4 := HBB.out.cell 4 (v := .slice a3 b.nums.length a6) rfl
        have m5 := HBB.out.cell 5 (v := .int .i64 b.wire) rfl
        have ml := HBB.out.lt
        have n0 := HBX.out.cell 0 (v := .slice wa worn.length wc) rfl
        have n1 := HBX.out.cell 1 (v := .slice ka wks.length kc) rfl
        have n2 := HBX.out.cell 2 (v := .int .i64 turn) rfl
        have n3 := HBX.out.cell 3 (v := .int .i64 lim) rfl
        have nl := HBX.out.lt
        go_upto_if 153 with fail
        go_cut [] from 300 to 300 (fun wx => wx = w15)
        case first =>
          go_wp2
          go_meet
          exact rfl
        case rest =>
          obtain rfl := hcut
          rename_i K0 b0
          refine b0 _ _ ?_
          exact plans_tail _ (by kernel_rfl) a1 a2 a3 a4 a5 a6 b worn wk wks turn lim la le wa ka ua _ kc uc w _ HX HEC HNL HL1 HLR HW HU HUN HWK HBB HBX
end Go.Proofs.YtlkbbcfbnbnagaaGreat
