/-
  BoardBoxes.
-/
import Derived.Test.YtlkbbcfbnbnagaaLci
import Derived.Test.YtlkbbcfbnbnagaaLcb
import Derived.Test.YtlkbbcfbnbnagaaRex
namespace Go.Proofs.Ytlkbbcfbnbnagaa
open Go.RowKit Go.BigFrame
attribute [local go_sem] Later.cell Later.frozen Lat.cell Lat.frozen
def LseS (n : Nat) (er : Int) (v : Value) : Prop := ∃ a c, v = .tuple #[.slice a n c, .int .i64 er]
def LseT (l : List Int) (er : Int) (v : Value) (w : World) : Prop := ∃ a c, v = .tuple #[.slice a l.length c, .int .i64 er] ∧ CellsAt w .i64 a l
/-- A list of integers, and an error. -/
def Rik.lse (l : List Int) (er : Int) : Rik := ⟨true, LseS l.length er, LseT l er, fun _ _ _ ⟨a, c, e, h⟩ hx => ⟨a, c, e, h.ext hx⟩, .tuple #[.slice none l.length 0, .int .i64 er], ⟨_, _, rfl⟩⟩
theorem LseT.at {l : List Int} {er : Int} {a : Option Addr} {c : Nat} {w : World} (h : LseT l er (.tuple #[.slice a l.length c, .int .i64 er]) w) : CellsAt w .i64 a l := by
  obtain ⟨a', c', e, hc⟩ := h
  simp only [Value.tuple.injEq, Array.mk.injEq, List.cons.injEq, Value.slice.injEq, true_and, and_true] at e
  obtain ⟨rfl, rfl⟩ := e
  exact hc
theorem calls_box (v : BrdV) (b : Brd) (x : Bx) (w : World) (h : BrdAt w v b) (hs : SmallB b) :
    Calls Try.prog 14 #[.agg (v.cells b), x.agg] w fun e w' => ∃ a c, e = .returned (.tuple #[.slice a (bedsR b x).1.length c, .int .i64 (bedsR b x).2]) ∧ CellsAt w' .i64 a (bedsR b x).1 ∧ Ext w w' := by
  refine (brd_Beds v b x w h hs).mono ?_
  generalize (bedsR b x).1 = l
  rintro e w' ⟨u, rfl, hO, hX⟩
  obtain ⟨a, c, rfl, hc⟩ := hO.cells
  exact ⟨a, c, rfl, hc, hX⟩
/-- What the law wants. -/
def wantE (b : Brd) (x : Bx) : Int := if errB b ≠ 0 then errB b else boxE x
theorem want_err (b : Brd) (x : Bx) : (bedsR b x).2 = wantE b x := by
  unfold bedsR wantE boxE
  split
  · rfl
  · split
    · split <;> rfl
    · rfl
theorem want_no {b : Brd} {x : Bx} (h : wantE b x ≠ 0) : (bedsR b x).1 = [] := by
  unfold wantE boxE at h
  unfold bedsR
  split
  · rfl
  · rename_i h1
    rw [if_neg h1] at h
    split
    · rename_i h2
      rw [if_pos h2] at h
      split
      · rfl
      · rename_i h3
        rw [if_neg h3] at h
        exact absurd rfl h
    · rfl
theorem want_ok {b : Brd} {x : Bx} (h : wantE b x = 0) : errB b = 0 ∧ boxB x = true ∧ (bedsR b x).1 = setL ((ptsL x).map (bedB b)) := by
  unfold wantE boxE at h
  unfold bedsR
  by_cases h1 : errB b = 0
  · rw [if_neg (by simp [h1])] at h ⊢
    by_cases h2 : boxB x = true
    · rw [if_pos h2] at h ⊢
      by_cases h3 : 2500 < boxN x
      · rw [if_pos h3] at h; exact absurd h (by decide)
      · rw [if_neg h3]; refine ⟨h1, h2, ?_⟩; generalize setL ((ptsL x).map (bedB b)) = q; rfl
    · rw [if_neg h2] at h; exact absurd h (by decide)
  · rw [if_pos h1] at h; exact absurd h h1
set_option maxRecDepth 100000 in
set_option maxHeartbeats 8000000 in
theorem law_BoardBoxes (a1 a2 a3 : Option Addr) (a4 a5 a6 : Nat) (b : Brd) (x0 x1 y0 y1 : Int) (w : World) (h : BrdAt w ⟨a1, a2, a3, a4, a5, a6⟩ b) (hn : BrdNil ⟨a1, a2, a3, a4, a5, a6⟩ b) (hl : b.rings.length ≤ maxLen ∧ b.lines.length ≤ maxLen ∧ b.nums.length ≤ maxLen) :
    Calls Try.prog 3 #[.agg #[.int .i64 b.eye, .int .i64 b.bull, .slice a1 b.rings.length a4, .slice a2 b.lines.length a5, .slice a3 b.nums.length a6, .int .i64 b.wire], .agg #[.int .i64 x0, .int .i64 x1, .int .i64 y0, .int .i64 y1]] w fun e w' => e = .returned (.bool true) ∧ Ext w w' := by
  have HB := Lib.hid h
  have HN := Lib.hid hn
  have HG := Lib.hid (fun W (hx : Ext w W) => law_great ⟨a1, a2, a3, a4, a5, a6⟩ b W (h.ext hx) hl)
  unfold BrdV.cells at HG
  clear h hn hl
  go_enter Try.func3, Try.ntmps3
  go_wp2_with fail
  refine (HG.out _ (((Ext.refl w).alloc _).alloc _)).mono ?_
  rintro e w1 ⟨rfl, hx1⟩
  have HX1 := Lib.hid (Ext.trans (((Ext.refl w).alloc _).alloc _) hx1)
  have HJ1 : Hid (Blk w1 w.heap.size #[.int .i64 b.eye, .int .i64 b.bull, .slice a1 b.rings.length a4, .slice a2 b.lines.length a5, .slice a3 b.nums.length a6, .int .i64 b.wire]) := Lib.hid (((Blk.new w _ _).alloc _).ext hx1)
  have HK1 : Hid (Blk w1 (w.heap.size + 1) #[.int .i64 x0, .int .i64 x1, .int .i64 y0, .int .i64 y1]) := Lib.hid ((Blk.at _ (by simp)).ext hx1)
  clear hx1
  have m0 := HJ1.out.cell 0 (v := .int .i64 b.eye) rfl
  have m1 := HJ1.out.cell 1 (v := .int .i64 b.bull) rfl
  have m2 := HJ1.out.cell 2 (v := .slice a1 b.rings.length a4) rfl
  have m3 := HJ1.out.cell 3 (v := .slice a2 b.lines.length a5) rfl
  have m4 := HJ1.out.cell 4 (v := .slice a3 b.nums.length a6) rfl
  have m5 := HJ1.out.cell 5 (v := .int .i64 b.wire) rfl
  have ml := HJ1.out.lt
  have n0 := HK1.out.cell 0 (v := .int .i64 x0) rfl
  have n1 := HK1.out.cell 1 (v := .int .i64 x1) rfl
  have n2 := HK1.out.cell 2 (v := .int .i64 y0) rfl
  have n3 := HK1.out.cell 3 (v := .int .i64 y1) rfl
  have nl := HK1.out.lt
  cases hgr : greatB b
  case true =>
    go_wp2_with fail
    refine (law_known _).mono ?_
    rintro e w9 ⟨rfl, hx9⟩
    have HX9 := Lib.hid (HX1.out.trans hx9)
    clear hx9
    go_wp2_with fail
    go_ret
    exact ⟨rfl, HX9.out⟩
  case false =>
  have HSM := Lib.hid (small_of hgr)
  have HGT := Lib.hid (grt_of hgr)
  clear HG hgr
  go_wp2_with fail
  refine (ref_check a1 a2 a3 a4 a5 a6 b _ (HB.out.ext HX1.out) HSM.out HGT.out).mono ?_
  rintro e w2 ⟨rfl, hx2⟩
  have HX2 := Lib.hid (HX1.out.trans hx2)
  have HJ2 := Lib.hid (HJ1.out.ext hx2)
  have HK2 := Lib.hid (HK1.out.ext hx2)
  clear hx2 HJ1 HK1 HX1 m0 m1 m2 m3 m4 m5 ml n0 n1 n2 n3 nl
  have m0 := HJ2.out.cell 0 (v := .int .i64 b.eye) rfl
  have m1 := HJ2.out.cell 1 (v := .int .i64 b.bull) rfl
  have m2 := HJ2.out.cell 2 (v := .slice a1 b.rings.length a4) rfl
  have m3 := HJ2.out.cell 3 (v := .slice a2 b.lines.length a5) rfl
  have m4 := HJ2.out.cell 4 (v := .slice a3 b.nums.length a6) rfl
  have m5 := HJ2.out.cell 5 (v := .int .i64 b.wire) rfl
  have ml := HJ2.out.lt
  have n0 := HK2.out.cell 0 (v := .int .i64 x0) rfl
  have n1 := HK2.out.cell 1 (v := .int .i64 x1) rfl
  have n2 := HK2.out.cell 2 (v := .int .i64 y0) rfl
  have n3 := HK2.out.cell 3 (v := .int .i64 y1) rfl
  have nl := HK2.out.lt
  have HBX := Lib.hid (fun v W hb => calls_box v b ⟨x0, x1, y0, y1⟩ W hb HSM.out)
  have HWE := Lib.hid (want_err b ⟨x0, x1, y0, y1⟩)
  have HWN := Lib.hid (fun h => want_no (b := b) (x := ⟨x0, x1, y0, y1⟩) h)
  have HWO := Lib.hid (fun h => want_ok (b := b) (x := ⟨x0, x1, y0, y1⟩) h)
  obtain ⟨wa, hwa⟩ : ∃ c, wantE b ⟨x0, x1, y0, y1⟩ = c := ⟨_, rfl⟩
  have HWA : Hid ((if errB b ≠ 0 then errB b else boxE ⟨x0, x1, y0, y1⟩) = wa) := Lib.hid hwa
  rw [hwa] at HWE HWN HWO
  obtain ⟨ls, hls⟩ : ∃ c, (bedsR b ⟨x0, x1, y0, y1⟩).1 = c := ⟨_, rfl⟩
  obtain ⟨er, her⟩ : ∃ c, (bedsR b ⟨x0, x1, y0, y1⟩).2 = c := ⟨_, rfl⟩
  rw [hls, her] at HBX
  rw [hls] at HWN HWO
  rw [her] at HWE
  unfold Bx.agg at HBX
  obtain rfl : er = wa := HWE.out
  have HRB := Lib.hid (fun W => ref_box ⟨x0, x1, y0, y1⟩ W)
  unfold Bx.agg at HRB
  have HBN : Hid (boxN ⟨x0, x1, y0, y1⟩ = (x1 - x0 + 1) * (y1 - y0 + 1)) := Lib.hid rfl
  obtain ⟨ec, hec⟩ : ∃ c, errB b = c := ⟨_, rfl⟩
  rw [hec] at HWA ⊢
  obtain ⟨bx, hbx⟩ : ∃ c, boxE ⟨x0, x1, y0, y1⟩ = c := ⟨_, rfl⟩
  rw [hbx] at HWA HRB
  clear hwa hls her HWE
  cases d0 : (ec == 0)
  case false =>
    obtain rfl : ec = er := by rw [← HWA.out, if_pos (by simpa using d0)]
    have d1 : (ec != 0) = true := by simpa using d0
    have hee : (ec == ec) = true := by simp
    have HLE := Lib.hid (HWN.out (by simpa using d0))
    go_upto_region 8 with fail
    clear m0 m1 m2 m3 m4 m5 ml n0 n1 n2 n3 nl
    have m0 : ∀ y : Lat NoX w2, y.world.cell? ⟨w.heap.size, 0, none⟩ = some (.int .i64 b.eye) := fun y => (HJ2.out.ext (Lat.ext0 y)).cell 0 rfl
    have m1 : ∀ y : Lat NoX w2, y.world.cell? ⟨w.heap.size, 1, none⟩ = some (.int .i64 b.bull) := fun y => (HJ2.out.ext (Lat.ext0 y)).cell 1 rfl
    have m2 : ∀ y : Lat NoX w2, y.world.cell? ⟨w.heap.size, 2, none⟩ = some (.slice a1 b.rings.length a4) := fun y => (HJ2.out.ext (Lat.ext0 y)).cell 2 rfl
    have m3 : ∀ y : Lat NoX w2, y.world.cell? ⟨w.heap.size, 3, none⟩ = some (.slice a2 b.lines.length a5) := fun y => (HJ2.out.ext (Lat.ext0 y)).cell 3 rfl
    have m4 : ∀ y : Lat NoX w2, y.world.cell? ⟨w.heap.size, 4, none⟩ = some (.slice a3 b.nums.length a6) := fun y => (HJ2.out.ext (Lat.ext0 y)).cell 4 rfl
    have m5 : ∀ y : Lat NoX w2, y.world.cell? ⟨w.heap.size, 5, none⟩ = some (.int .i64 b.wire) := fun y => (HJ2.out.ext (Lat.ext0 y)).cell 5 rfl
    have n0 : ∀ y : Lat NoX w2, y.world.cell? ⟨(w.heap.size + 1), 0, none⟩ = some (.int .i64 x0) := fun y => (HK2.out.ext (Lat.ext0 y)).cell 0 rfl
    have n1 : ∀ y : Lat NoX w2, y.world.cell? ⟨(w.heap.size + 1), 1, none⟩ = some (.int .i64 x1) := fun y => (HK2.out.ext (Lat.ext0 y)).cell 1 rfl
    have n2 : ∀ y : Lat NoX w2, y.world.cell? ⟨(w.heap.size + 1), 2, none⟩ = some (.int .i64 y0) := fun y => (HK2.out.ext (Lat.ext0 y)).cell 2 rfl
    have n3 : ∀ y : Lat NoX w2, y.world.cell? ⟨(w.heap.size + 1), 3, none⟩ = some (.int .i64 y1) := fun y => (HK2.out.ext (Lat.ext0 y)).cell 3 rfl
    have HBA := Lib.hid (HB.out.ext HX2.out)
    refine wp_region_ext (by kernel_rfl) [.no, .boa b b, .no, .lse ls ec] (by kernel_rfl) (Nat.le_of_ble_eq_true rfl) ?_
    intro T hT hne u hu
    obtain ⟨p1, p2, p3, p4, p5, p6, u1⟩ : BoaS b (u 1) := hu 1 rfl
    obtain ⟨ra, rc, u3⟩ : LseS ls.length ec (u 3) := hu 3 rfl
    clear hu
    refine lx_next 1 (by rfl) (by decide) ?_
    dsimp only [List.take, List.drop]
    repeat (go_big_quiet_step (fail))
    refine wpQuiet_nil ?_
    refine lx_loud (by rfl) (by kernel_rfl) ?_ (fun K hK => ?_)
    · intro L w3 hL hd hcl hC hs
      obtain ⟨y, rfl⟩ := hC
      have hxy := Lat.ext0 y

      go_wp2_with fail
      refine (law_own ⟨a1, a2, a3, a4, a5, a6⟩ b _ (HBA.out.ext hxy) HN.out HSM.out).mono ?_
      rintro e w' ⟨v', rfl, hB', hN', -, hx⟩
      have HRK := Lib.hid (rik_call (i := 1) y hs ⟨_, _, _, _, _, _, rfl⟩ hx ⟨_, rfl, hB', hN'⟩)
      clear hs
      go_wp2
      exact HRK.out
    rw [u1]
    go_simp
    with_reducible refine hK _ ?_
    clear hK K
    refine lx_next 1 (by rfl) (by decide) ?_
    dsimp only [List.take, List.drop]
    repeat (go_big_quiet_step (fail))
    refine wpQuiet_nil ?_
    refine lx_loud (by rfl) (by kernel_rfl) ?_ (fun K hK => ?_)
    · intro L w3 hL hd hcl hC hs
      obtain ⟨y, rfl⟩ := hC
      have hxy := Lat.ext0 y
      have h1 := hs 1 rfl (hd 1 (by kernel_rfl))
      rw [u1] at h1
      obtain ⟨hB1, hN1⟩ := BoaT.at h1
      go_wp2_with fail
      refine (HBX.out ⟨p1, p2, p3, p4, p5, p6⟩ _ hB1).mono ?_
      rintro e w' ⟨xa, xc, rfl, hri, hx⟩
      have HRK := Lib.hid (rik_call (i := 3) y hs ⟨xa, xc, rfl⟩ hx ⟨xa, xc, rfl, hri⟩)
      clear hs
      go_wp2
      exact HRK.out
    rw [u3]
    go_simp
    with_reducible refine hK _ ?_
    clear hK K
    refine lx_next 5 (by rfl) (by decide) ?_
    dsimp only [List.take, List.drop]
    repeat (go_big_quiet_step (fail))
    refine wpQuiet_nil ?_
    refine lx_nil ?_
    intro y hs
    have hxy := Lat.ext0 y
    have h3 := hs 3 rfl rfl
    rw [u3] at h3
    have HLS := Lib.hid (LseT.at h3)
    have HX6 := Lib.hid (HX2.out.trans hxy)
    have HJ6 := Lib.hid (HJ2.out.ext hxy)
    have HK6 := Lib.hid (HK2.out.ext hxy)
    generalize y.world = w6 at *
    clear hs hxy m0 m1 m2 m3 m4 m5 n0 n1 n2 n3 hT hne u1 u3 h3
    have m0 := HJ6.out.cell 0 (v := .int .i64 b.eye) rfl
    have m1 := HJ6.out.cell 1 (v := .int .i64 b.bull) rfl
    have m2 := HJ6.out.cell 2 (v := .slice a1 b.rings.length a4) rfl
    have m3 := HJ6.out.cell 3 (v := .slice a2 b.lines.length a5) rfl
    have m4 := HJ6.out.cell 4 (v := .slice a3 b.nums.length a6) rfl
    have m5 := HJ6.out.cell 5 (v := .int .i64 b.wire) rfl
    have ml := HJ6.out.lt
    have n0 := HK6.out.cell 0 (v := .int .i64 x0) rfl
    have n1 := HK6.out.cell 1 (v := .int .i64 x1) rfl
    have n2 := HK6.out.cell 2 (v := .int .i64 y0) rfl
    have n3 := HK6.out.cell 3 (v := .int .i64 y1) rfl
    have nl := HK6.out.lt
    clear HLS
    obtain rfl : ls = [] := HLE.out
    go_wp2_with fail
    refine (law_known _).mono ?_
    rintro e w9 ⟨rfl, hx9⟩
    have HX9 := Lib.hid (HX6.out.trans hx9)
    clear hx9
    go_wp2_with fail
    go_ret
    exact ⟨rfl, HX9.out⟩
  case true =>
  obtain rfl : ec = 0 := by simpa using d0
  obtain rfl : bx = er := by rw [← HWA.out, if_neg (by simp)]
  clear d0 HWA
  go_wp2_with fail
  refine (HRB.out _).mono ?_
  rintro e w3 ⟨rfl, hx3⟩
  have HX3 := Lib.hid (HX2.out.trans hx3)
  have HJ3 := Lib.hid (HJ2.out.ext hx3)
  have HK3 := Lib.hid (HK2.out.ext hx3)
  clear hx3 HJ2 HK2 HX2 m0 m1 m2 m3 m4 m5 ml n0 n1 n2 n3 nl
  have m0 := HJ3.out.cell 0 (v := .int .i64 b.eye) rfl
  have m1 := HJ3.out.cell 1 (v := .int .i64 b.bull) rfl
  have m2 := HJ3.out.cell 2 (v := .slice a1 b.rings.length a4) rfl
  have m3 := HJ3.out.cell 3 (v := .slice a2 b.lines.length a5) rfl
  have m4 := HJ3.out.cell 4 (v := .slice a3 b.nums.length a6) rfl
  have m5 := HJ3.out.cell 5 (v := .int .i64 b.wire) rfl
  have ml := HJ3.out.lt
  have n0 := HK3.out.cell 0 (v := .int .i64 x0) rfl
  have n1 := HK3.out.cell 1 (v := .int .i64 x1) rfl
  have n2 := HK3.out.cell 2 (v := .int .i64 y0) rfl
  have n3 := HK3.out.cell 3 (v := .int .i64 y1) rfl
  have nl := HK3.out.lt
  cases d0 : (bx == 0)
  case false =>
    have d1 : (bx != 0) = true := by simpa using d0
    have hee : (bx == bx) = true := by simp
    have HLE := Lib.hid (HWN.out (by simpa using d0))
    go_upto_region 8 with fail
    clear m0 m1 m2 m3 m4 m5 ml n0 n1 n2 n3 nl
    have m0 : ∀ y : Lat NoX w3, y.world.cell? ⟨w.heap.size, 0, none⟩ = some (.int .i64 b.eye) := fun y => (HJ3.out.ext (Lat.ext0 y)).cell 0 rfl
    have m1 : ∀ y : Lat NoX w3, y.world.cell? ⟨w.heap.size, 1, none⟩ = some (.int .i64 b.bull) := fun y => (HJ3.out.ext (Lat.ext0 y)).cell 1 rfl
    have m2 : ∀ y : Lat NoX w3, y.world.cell? ⟨w.heap.size, 2, none⟩ = some (.slice a1 b.rings.length a4) := fun y => (HJ3.out.ext (Lat.ext0 y)).cell 2 rfl
    have m3 : ∀ y : Lat NoX w3, y.world.cell? ⟨w.heap.size, 3, none⟩ = some (.slice a2 b.lines.length a5) := fun y => (HJ3.out.ext (Lat.ext0 y)).cell 3 rfl
    have m4 : ∀ y : Lat NoX w3, y.world.cell? ⟨w.heap.size, 4, none⟩ = some (.slice a3 b.nums.length a6) := fun y => (HJ3.out.ext (Lat.ext0 y)).cell 4 rfl
    have m5 : ∀ y : Lat NoX w3, y.world.cell? ⟨w.heap.size, 5, none⟩ = some (.int .i64 b.wire) := fun y => (HJ3.out.ext (Lat.ext0 y)).cell 5 rfl
    have n0 : ∀ y : Lat NoX w3, y.world.cell? ⟨(w.heap.size + 1), 0, none⟩ = some (.int .i64 x0) := fun y => (HK3.out.ext (Lat.ext0 y)).cell 0 rfl
    have n1 : ∀ y : Lat NoX w3, y.world.cell? ⟨(w.heap.size + 1), 1, none⟩ = some (.int .i64 x1) := fun y => (HK3.out.ext (Lat.ext0 y)).cell 1 rfl
    have n2 : ∀ y : Lat NoX w3, y.world.cell? ⟨(w.heap.size + 1), 2, none⟩ = some (.int .i64 y0) := fun y => (HK3.out.ext (Lat.ext0 y)).cell 2 rfl
    have n3 : ∀ y : Lat NoX w3, y.world.cell? ⟨(w.heap.size + 1), 3, none⟩ = some (.int .i64 y1) := fun y => (HK3.out.ext (Lat.ext0 y)).cell 3 rfl
    have HBA := Lib.hid (HB.out.ext HX3.out)
    refine wp_region_ext (by kernel_rfl) [.no, .boa b b, .no, .lse ls bx] (by kernel_rfl) (Nat.le_of_ble_eq_true rfl) ?_
    intro T hT hne u hu
    obtain ⟨p1, p2, p3, p4, p5, p6, u1⟩ : BoaS b (u 1) := hu 1 rfl
    obtain ⟨ra, rc, u3⟩ : LseS ls.length bx (u 3) := hu 3 rfl
    clear hu
    refine lx_next 1 (by rfl) (by decide) ?_
    dsimp only [List.take, List.drop]
    repeat (go_big_quiet_step (fail))
    refine wpQuiet_nil ?_
    refine lx_loud (by rfl) (by kernel_rfl) ?_ (fun K hK => ?_)
    · intro L w3 hL hd hcl hC hs
      obtain ⟨y, rfl⟩ := hC
      have hxy := Lat.ext0 y

      go_wp2_with fail
      refine (law_own ⟨a1, a2, a3, a4, a5, a6⟩ b _ (HBA.out.ext hxy) HN.out HSM.out).mono ?_
      rintro e w' ⟨v', rfl, hB', hN', -, hx⟩
      have HRK := Lib.hid (rik_call (i := 1) y hs ⟨_, _, _, _, _, _, rfl⟩ hx ⟨_, rfl, hB', hN'⟩)
      clear hs
      go_wp2
      exact HRK.out
    rw [u1]
    go_simp
    with_reducible refine hK _ ?_
    clear hK K
    refine lx_next 1 (by rfl) (by decide) ?_
    dsimp only [List.take, List.drop]
    repeat (go_big_quiet_step (fail))
    refine wpQuiet_nil ?_
    refine lx_loud (by rfl) (by kernel_rfl) ?_ (fun K hK => ?_)
    · intro L w3 hL hd hcl hC hs
      obtain ⟨y, rfl⟩ := hC
      have hxy := Lat.ext0 y
      have h1 := hs 1 rfl (hd 1 (by kernel_rfl))
      rw [u1] at h1
      obtain ⟨hB1, hN1⟩ := BoaT.at h1
      go_wp2_with fail
      refine (HBX.out ⟨p1, p2, p3, p4, p5, p6⟩ _ hB1).mono ?_
      rintro e w' ⟨xa, xc, rfl, hri, hx⟩
      have HRK := Lib.hid (rik_call (i := 3) y hs ⟨xa, xc, rfl⟩ hx ⟨xa, xc, rfl, hri⟩)
      clear hs
      go_wp2
      exact HRK.out
    rw [u3]
    go_simp
    with_reducible refine hK _ ?_
    clear hK K
    refine lx_next 5 (by rfl) (by decide) ?_
    dsimp only [List.take, List.drop]
    repeat (go_big_quiet_step (fail))
    refine wpQuiet_nil ?_
    refine lx_nil ?_
    intro y hs
    have hxy := Lat.ext0 y
    have h3 := hs 3 rfl rfl
    rw [u3] at h3
    have HLS := Lib.hid (LseT.at h3)
    have HX6 := Lib.hid (HX3.out.trans hxy)
    have HJ6 := Lib.hid (HJ3.out.ext hxy)
    have HK6 := Lib.hid (HK3.out.ext hxy)
    generalize y.world = w6 at *
    clear hs hxy m0 m1 m2 m3 m4 m5 n0 n1 n2 n3 hT hne u1 u3 h3
    have m0 := HJ6.out.cell 0 (v := .int .i64 b.eye) rfl
    have m1 := HJ6.out.cell 1 (v := .int .i64 b.bull) rfl
    have m2 := HJ6.out.cell 2 (v := .slice a1 b.rings.length a4) rfl
    have m3 := HJ6.out.cell 3 (v := .slice a2 b.lines.length a5) rfl
    have m4 := HJ6.out.cell 4 (v := .slice a3 b.nums.length a6) rfl
    have m5 := HJ6.out.cell 5 (v := .int .i64 b.wire) rfl
    have ml := HJ6.out.lt
    have n0 := HK6.out.cell 0 (v := .int .i64 x0) rfl
    have n1 := HK6.out.cell 1 (v := .int .i64 x1) rfl
    have n2 := HK6.out.cell 2 (v := .int .i64 y0) rfl
    have n3 := HK6.out.cell 3 (v := .int .i64 y1) rfl
    have nl := HK6.out.lt
    clear HLS
    obtain rfl : ls = [] := HLE.out
    go_wp2_with fail
    refine (law_known _).mono ?_
    rintro e w9 ⟨rfl, hx9⟩
    have HX9 := Lib.hid (HX6.out.trans hx9)
    clear hx9
    go_wp2_with fail
    go_ret
    exact ⟨rfl, HX9.out⟩
  case true =>
  obtain rfl : bx = 0 := by simpa using d0
  obtain ⟨-, hbb, hls⟩ := HWO.out rfl
  obtain ⟨⟨u0, u1, u2⟩, v0, v1, v2⟩ := boxB_ok hbb
  simp only at u0 u1 u2 v0 v1 v2
  have hb := mul_bound (a := x1 - x0 + 1) (b := y1 - y0 + 1) (m := 10001) (n := 10001) (by omega) (by omega)
  have hb0 : -200000000 ≤ (x1 - x0 + 1) * (y1 - y0 + 1) := by omega
  have hb1 : (x1 - x0 + 1) * (y1 - y0 + 1) ≤ 200000000 := by omega
  have HLS0 := Lib.hid hls
  have HGD := Lib.hid (errB_good HSM.out hec)
  have HLN := Lib.hid (err_lines hec)
  have HBL := Lib.hid (err_bull hec)
  have HOK : Hid (Bx.ok ⟨x0, x1, y0, y1⟩) := Lib.hid (boxB_ok hbb)
  clear hb hbb hls d0 HWN HWO hec hbx
  cases d2 : decide (400 < (x1 - x0 + 1) * (y1 - y0 + 1))
  case true =>
    go_wp2_with fail
    refine (law_known _).mono ?_
    rintro e w9 ⟨rfl, hx9⟩
    have HX9 := Lib.hid (HX3.out.trans hx9)
    clear hx9
    go_wp2_with fail
    go_ret
    exact ⟨rfl, HX9.out⟩
  case false =>
  go_upto_region 8 with fail
  clear m0 m1 m2 m3 m4 m5 ml n0 n1 n2 n3 nl
  have m0 : ∀ y : Lat NoX w3, y.world.cell? ⟨w.heap.size, 0, none⟩ = some (.int .i64 b.eye) := fun y => (HJ3.out.ext (Lat.ext0 y)).cell 0 rfl
  have m1 : ∀ y : Lat NoX w3, y.world.cell? ⟨w.heap.size, 1, none⟩ = some (.int .i64 b.bull) := fun y => (HJ3.out.ext (Lat.ext0 y)).cell 1 rfl
  have m2 : ∀ y : Lat NoX w3, y.world.cell? ⟨w.heap.size, 2, none⟩ = some (.slice a1 b.rings.length a4) := fun y => (HJ3.out.ext (Lat.ext0 y)).cell 2 rfl
  have m3 : ∀ y : Lat NoX w3, y.world.cell? ⟨w.heap.size, 3, none⟩ = some (.slice a2 b.lines.length a5) := fun y => (HJ3.out.ext (Lat.ext0 y)).cell 3 rfl
  have m4 : ∀ y : Lat NoX w3, y.world.cell? ⟨w.heap.size, 4, none⟩ = some (.slice a3 b.nums.length a6) := fun y => (HJ3.out.ext (Lat.ext0 y)).cell 4 rfl
  have m5 : ∀ y : Lat NoX w3, y.world.cell? ⟨w.heap.size, 5, none⟩ = some (.int .i64 b.wire) := fun y => (HJ3.out.ext (Lat.ext0 y)).cell 5 rfl
  have n0 : ∀ y : Lat NoX w3, y.world.cell? ⟨(w.heap.size + 1), 0, none⟩ = some (.int .i64 x0) := fun y => (HK3.out.ext (Lat.ext0 y)).cell 0 rfl
  have n1 : ∀ y : Lat NoX w3, y.world.cell? ⟨(w.heap.size + 1), 1, none⟩ = some (.int .i64 x1) := fun y => (HK3.out.ext (Lat.ext0 y)).cell 1 rfl
  have n2 : ∀ y : Lat NoX w3, y.world.cell? ⟨(w.heap.size + 1), 2, none⟩ = some (.int .i64 y0) := fun y => (HK3.out.ext (Lat.ext0 y)).cell 2 rfl
  have n3 : ∀ y : Lat NoX w3, y.world.cell? ⟨(w.heap.size + 1), 3, none⟩ = some (.int .i64 y1) := fun y => (HK3.out.ext (Lat.ext0 y)).cell 3 rfl
  have HBA := Lib.hid (HB.out.ext HX3.out)
  refine wp_region_ext (by kernel_rfl) [.no, .boa b b, .no, .lse ls 0] (by kernel_rfl) (Nat.le_of_ble_eq_true rfl) ?_
  intro T hT hne u hu
  obtain ⟨p1, p2, p3, p4, p5, p6, u1⟩ : BoaS b (u 1) := hu 1 rfl
  obtain ⟨ra, rc, u3⟩ : LseS ls.length 0 (u 3) := hu 3 rfl
  clear hu
  refine lx_next 1 (by rfl) (by decide) ?_
  dsimp only [List.take, List.drop]
  repeat (go_big_quiet_step (fail))
  refine wpQuiet_nil ?_
  refine lx_loud (by rfl) (by kernel_rfl) ?_ (fun K hK => ?_)
  · intro L w3 hL hd hcl hC hs
    obtain ⟨y, rfl⟩ := hC
    have hxy := Lat.ext0 y

    go_wp2_with fail
    refine (law_own ⟨a1, a2, a3, a4, a5, a6⟩ b _ (HBA.out.ext hxy) HN.out HSM.out).mono ?_
    rintro e w' ⟨v', rfl, hB', hN', -, hx⟩
    have HRK := Lib.hid (rik_call (i := 1) y hs ⟨_, _, _, _, _, _, rfl⟩ hx ⟨_, rfl, hB', hN'⟩)
    clear hs
    go_wp2
    exact HRK.out
  rw [u1]
  go_simp
  with_reducible refine hK _ ?_
  clear hK K
  refine lx_next 1 (by rfl) (by decide) ?_
  dsimp only [List.take, List.drop]
  repeat (go_big_quiet_step (fail))
  refine wpQuiet_nil ?_
  refine lx_loud (by rfl) (by kernel_rfl) ?_ (fun K hK => ?_)
  · intro L w3 hL hd hcl hC hs
    obtain ⟨y, rfl⟩ := hC
    have hxy := Lat.ext0 y
    have h1 := hs 1 rfl (hd 1 (by kernel_rfl))
    rw [u1] at h1
    obtain ⟨hB1, hN1⟩ := BoaT.at h1
    go_wp2_with fail
    refine (HBX.out ⟨p1, p2, p3, p4, p5, p6⟩ _ hB1).mono ?_
    rintro e w' ⟨xa, xc, rfl, hri, hx⟩
    have HRK := Lib.hid (rik_call (i := 3) y hs ⟨xa, xc, rfl⟩ hx ⟨xa, xc, rfl, hri⟩)
    clear hs
    go_wp2
    exact HRK.out
  rw [u3]
  go_simp
  with_reducible refine hK _ ?_
  clear hK K
  refine lx_next 5 (by rfl) (by decide) ?_
  dsimp only [List.take, List.drop]
  repeat (go_big_quiet_step (fail))
  refine wpQuiet_nil ?_
  refine lx_nil ?_
  intro y hs
  have hxy := Lat.ext0 y
  have h3 := hs 3 rfl rfl
  rw [u3] at h3
  have HLS := Lib.hid (LseT.at h3)
  have HX6 := Lib.hid (HX3.out.trans hxy)
  have HJ6 := Lib.hid (HJ3.out.ext hxy)
  have HK6 := Lib.hid (HK3.out.ext hxy)
  generalize y.world = w6 at *
  clear hs hxy m0 m1 m2 m3 m4 m5 n0 n1 n2 n3 hT hne u1 u3 h3
  have m0 := HJ6.out.cell 0 (v := .int .i64 b.eye) rfl
  have m1 := HJ6.out.cell 1 (v := .int .i64 b.bull) rfl
  have m2 := HJ6.out.cell 2 (v := .slice a1 b.rings.length a4) rfl
  have m3 := HJ6.out.cell 3 (v := .slice a2 b.lines.length a5) rfl
  have m4 := HJ6.out.cell 4 (v := .slice a3 b.nums.length a6) rfl
  have m5 := HJ6.out.cell 5 (v := .int .i64 b.wire) rfl
  have ml := HJ6.out.lt
  have n0 := HK6.out.cell 0 (v := .int .i64 x0) rfl
  have n1 := HK6.out.cell 1 (v := .int .i64 x1) rfl
  have n2 := HK6.out.cell 2 (v := .int .i64 y0) rfl
  have n3 := HK6.out.cell 3 (v := .int .i64 y1) rfl
  have nl := HK6.out.lt
  go_wp2_with fail
  have HRE := Lib.hid (ref_beds a1 a2 a3 a4 a5 a6 b ⟨x0, x1, y0, y1⟩ w6 (HB.out.ext HX6.out) HGD.out HLN.out HBL.out HOK.out)
  rw [← HLS0.out] at HRE
  unfold Bx.agg at HRE
  simp only at HRE
  refine HRE.out.mono ?_
  rintro e w7 ⟨v, rfl, ho, hx7⟩
  obtain ⟨va, vc, rfl, hcs⟩ := ho.cells
  have HV7 := Lib.hid hcs
  have HL7 := Lib.hid (HLS.out.ext hx7)
  have HX7 := Lib.hid (HX6.out.trans hx7)
  have HLL : Hid (ls.length ≤ 1000000) := Lib.hid (by rw [HLS0.out, setL_cnt]; have := cntB_small ((ptsL ⟨x0, x1, y0, y1⟩).map (bedB b)) 500; omega)
  clear ho hcs hx7 HRE HLS m0 m1 m2 m3 m4 m5 ml n0 n1 n2 n3 nl
  have HEQ := Lib.hid (law_equal ls ls ra va rc vc _ HL7.out HV7.out HLL.out)
  rw [decide_eq_true rfl] at HEQ
  go_wp2_with fail
  refine HEQ.out.mono ?_
  rintro e w8 ⟨rfl, hx8⟩
  have HX8 := Lib.hid (HX7.out.trans hx8)
  clear hx8
  go_wp2_with fail
  refine (law_known _).mono ?_
  rintro e w9 ⟨rfl, hx9⟩
  have HX9 := Lib.hid (HX8.out.trans hx9)
  clear hx9
  go_wp2_with fail
  go_ret
  exact ⟨rfl, HX9.out⟩
end Go.Proofs.Ytlkbbcfbnbnagaa
