/-
  The statement BoardEven.
-/
import Derived.Test.YtlkbbcfbnbnagaaLbb
import Derived.Test.YtlkbbcfbnbnagaaLbf
import Derived.Test.YtlkbbcfbnbnagaaRey
namespace Go.Proofs.Ytlkbbcfbnbnagaa
open Go.RowKit Go.BigFrame
attribute [local go_sem] Later.cell Later.frozen Lat.cell Lat.frozen
/-- Where the board, the wear and the weeks stand. -/
structure EvM (b : Brd) (a1 a2 a3 : Option Addr) (a4 a5 a6 k7 : Nat) (xs p q : List Int) (ua : Option Addr) (uc vb vo vc : Nat) (i0 : Option Addr) (c0 : Nat) (i1 : Option Addr) (c1 : Nat) (W : World) : Prop where
  brd : BrdAt W ⟨a1, a2, a3, a4, a5, a6⟩ b
  blk : Blk W k7 #[.int .i64 b.eye, .int .i64 b.bull, .slice a1 b.rings.length a4, .slice a2 b.lines.length a5, .slice a3 b.nums.length a6, .int .i64 b.wire]
  worn : RdI S0 W (.slice ua xs.length uc) xs
  cel0 : W.cell? ⟨vb, vo, none⟩ = some (.slice i0 p.length c0)
  cel1 : W.cell? ⟨vb, vo + 1, none⟩ = some (.slice i1 q.length c1)
  wk0 : RdI S0 W (.slice i0 p.length c0) p
  wk1 : RdI S0 W (.slice i1 q.length c1) q
  wks : WksAt S0 W (.slice (some ⟨vb, vo, none⟩) 2 vc) [p, q]
theorem EvM.ext {b : Brd} {a1 a2 a3 : Option Addr} {a4 a5 a6 k7 : Nat} {xs p q : List Int} {ua : Option Addr} {uc vb vo vc : Nat} {i0 : Option Addr} {c0 : Nat} {i1 : Option Addr} {c1 : Nat} {W W' : World} (h : EvM b a1 a2 a3 a4 a5 a6 k7 xs p q ua uc vb vo vc i0 c0 i1 c1 W) (hx : Ext W W') : EvM b a1 a2 a3 a4 a5 a6 k7 xs p q ua uc vb vo vc i0 c0 i1 c1 W' :=
  ⟨h.brd.ext hx, h.blk.ext hx, h.worn.ext hx, hx.cell h.cel0, hx.cell h.cel1, h.wk0.ext hx, h.wk1.ext hx, h.wks.ext hx⟩
set_option maxRecDepth 100000 in
set_option maxHeartbeats 8000000 in
theorem law_BoardEven (x : Mad) (ra la : Option Addr) (rc lc : Nat) (l : List Int) (ba : Option Addr) (bc : Nat) (z0 z1 : Int) (hf : x.fits) (h0 : 0 ≤ z0 ∧ z0 ≤ 255) (h1 : 0 ≤ z1 ∧ z1 ≤ 255) (w : World) (hr : CellsAt w .u8 ra x.rings) (hl : CellsAt w .u8 la x.lines) (hrl : x.rings.length ≤ maxLen) (hll : x.lines.length ≤ maxLen)
    (hbl : CellsAt w .u8 ba l) (hbi : ∀ y ∈ l, 0 ≤ y ∧ y ≤ 255) (hbm : l.length ≤ maxLen) :
    Calls Try.prog 8 #[.agg (x.cells ra la rc lc), .slice ba l.length bc, .agg #[.int .u8 z0, .int .u8 z1]] w fun e w' => e = .returned (.bool true) ∧ Ext w w' := by
  have HM := Lib.hid (fun W (hx : Ext w W) => law_made x ra la rc lc W hf (hr.ext hx) (hl.ext hx) hrl hll)
  have HE := Lib.hid (made_ok x hf)
  have HSM := Lib.hid (made_small x)
  have hnn : 3 ≤ (madeB x).nums.length ∧ (madeB x).nums.length ≤ 20 := by
    have := lnM_spec x
    have e : (madeB x).nums.length = lnM x := numsM_len x _
    rw [e]; exact ⟨this.1, this.2.1⟩
  generalize madeB x = b at *
  unfold Mad.cells at *
  obtain ⟨n3, n20⟩ := hnn
  obtain ⟨z00, z01⟩ := h0
  obtain ⟨z10, z11⟩ := h1
  have HW := Lib.hid (fun W (hx : Ext w W) => law_wear l ba bc b.nums.length 2 W (hbl.ext hx) hbi hbm n20 (by omega))
  have hn0 : 0 < b.nums.length ∧ b.nums.length ≤ 20 := by omega
  have HWX := Lib.hid (wornW_wor hbi b.nums.length)
  have HWP := Lib.hid (weekW_wor hbi b.nums.length 0)
  have HWQ := Lib.hid (weekW_wor hbi b.nums.length 1)
  have e2 : weeksW l b.nums.length 2 = [weekW l b.nums.length 0, weekW l b.nums.length 1] := rfl
  rw [e2] at HW
  generalize wornW l b.nums.length = xs at *
  generalize weekW l b.nums.length 0 = p at *
  generalize weekW l b.nums.length 1 = q at *
  obtain ⟨i, hi⟩ : ∃ i : Nat, z0.tmod b.nums.length = i := ⟨(z0.tmod b.nums.length).toNat, by rw [Int.toNat_of_nonneg (Int.tmod_nonneg _ z00)]⟩
  obtain ⟨k, hk⟩ : ∃ i : Nat, z1.tmod b.nums.length = i := ⟨(z1.tmod b.nums.length).toNat, by rw [Int.toNat_of_nonneg (Int.tmod_nonneg _ z10)]⟩
  have hil : i < b.nums.length := by have := Int.tmod_lt_of_pos z0 (b := (b.nums.length : Int)) (by omega); omega
  have hkl : k < b.nums.length := by have := Int.tmod_lt_of_pos z1 (b := (b.nums.length : Int)) (by omega); omega
  have hnE : ¬ ((b.nums.length : Int) = 0) := by omega
  have HI := Lib.hid hi
  have HK := Lib.hid hk
  clear hf hr hl hrl hll hbl hbi hbm e2 hi hk
  go_enter Try.func8, Try.ntmps8
  go_wp2_with fail
  refine (HM.out _ (by first | exact (Ext.refl w).alloc _ | exact ((Ext.refl w).alloc _).alloc _)).mono ?_
  rintro e w1 ⟨⟨a1, a2, a3, a4, a5, a6⟩, rfl, hB, hN, -, hx1⟩
  have HN := Lib.hid hN
  unfold BrdV.cells
  go_upto_region 3 with fail
  obtain ⟨W, hW⟩ : ∃ y, y = w1.alloc (.cells #[.int .i64 b.eye, .int .i64 b.bull, .slice a1 b.rings.length a4, .slice a2 b.lines.length a5, .slice a3 b.nums.length a6, .int .i64 b.wire] 26) := ⟨_, rfl⟩
  rw [← hW]
  have hxW : Ext w1 W := by rw [hW]; exact (Ext.refl w1).alloc _
  have HB7 : Hid (Blk W w1.heap.size #[.int .i64 b.eye, .int .i64 b.bull, .slice a1 b.rings.length a4, .slice a2 b.lines.length a5, .slice a3 b.nums.length a6, .int .i64 b.wire]) := Lib.hid (by rw [hW]; exact Blk.new _ _ _)
  have HBW := Lib.hid (hB.ext hxW)
  have HXW : Hid (Ext w W) := Lib.hid ((((Ext.refl w).alloc _).alloc _).trans (hx1.trans hxW))
  have HZW : Hid (Blk W (w.heap.size + 1) #[.int .u8 z0, .int .u8 z1]) := Lib.hid (Blk.ext (Blk.at _ (by simp)) (hx1.trans hxW))
  generalize w1.heap.size = k7 at *
  clear hx1 hxW hW hB hN HM
  go_wp2_with fail
  refine (HW.out _ HXW.out).mono ?_
  rintro e w2 ⟨u0, v0, rfl, hru, hwv, hx2⟩
  obtain ⟨ua, uc, rfl⟩ := hru.opens
  obtain ⟨va, vc, rfl, hwv4⟩ := hwv
  obtain ⟨vb, vo, i0, c0, e, -, hc0, hr0⟩ := WksAt.get (wks := [p, q]) (a := va) (n := 2) (c := vc) ⟨_, _, rfl, hwv4⟩ 0 (by simp)
  obtain ⟨_, _, i1, c1, e', -, hc1, hr1⟩ := WksAt.get (wks := [p, q]) (a := va) (n := 2) (c := vc) ⟨_, _, rfl, hwv4⟩ 1 (by simp)
  rw [e] at e'
  cases e'
  subst e
  have HEV : Hid (EvM b a1 a2 a3 a4 a5 a6 k7 xs p q ua uc vb vo vc i0 c0 i1 c1 w2) := Lib.hid ⟨HBW.out.ext hx2, HB7.out.ext hx2, hru, hc0, hc1, hr0, hr1, ⟨_, _, rfl, hwv4⟩⟩
  have HX2 := Lib.hid (HXW.out.trans hx2)
  have HZ2 := Lib.hid (HZW.out.ext hx2)
  clear hru hwv4 hc0 hc1 hr0 hr1 hx2 HW HXW HZW HBW HB7
  have HXL := Lib.hid HWX.out.len
  have HPL := Lib.hid HWP.out.len
  have HQL := Lib.hid HWQ.out.len
  obtain ⟨y1, hy1⟩ : ∃ y, afterL xs p i = y := ⟨_, rfl⟩
  obtain ⟨y2, hy2⟩ : ∃ y, afterL y1 q k = y := ⟨_, rfl⟩
  have HW1 := Lib.hid (HWX.out.after HWP.out hil)
  have HE1 := Lib.hid (wear_ok HE.out rfl hn0 (HWX.out.mono (by omega)) (HWP.out.mono (by omega)) hil)
  have HS1 := Lib.hid (sumL_after xs p i (by rw [HXL.out, HPL.out]) (by rw [HXL.out]; omega))
  rw [hy1] at HW1 HE1 HS1
  have HW2 := Lib.hid (HW1.out.after HWQ.out hkl)
  have HE2 := Lib.hid (wear_ok HE.out rfl hn0 (HW1.out.mono (by omega)) (HWQ.out.mono (by omega)) hkl)
  have HS2 := Lib.hid (sumL_after y1 q k (by rw [HW1.out.len, HQL.out]) (by rw [HW1.out.len]; omega))
  rw [hy2] at HW2 HE2 HS2
  obtain ⟨nb, hnbl, hbest, hplan1, -, hmin⟩ := best_ok HE.out rfl hn0 (HWX.out.mono (by omega : (1000 : Int) ≤ 100000000)) (HWP.out.mono (by omega : (1000 : Int) ≤ 1000000))
  obtain ⟨t0, t1, ht0, ht1, hplan2, hmin2⟩ := plan_ok HE.out rfl hn0 (HWX.out.mono (by omega : (1000 : Int) ≤ 100000000)) (HWP.out.mono (by omega : (1000 : Int) ≤ 1000000)) (HWQ.out.mono (by omega : (1000 : Int) ≤ 1000000))
  have hg1 := hmin i hil
  have hg2 := hmin2 i k hil hkl
  rw [hy1] at hg1 hg2
  rw [hy2] at hg2
  obtain ⟨y3, hy3⟩ : ∃ y, afterL xs p nb = y := ⟨_, rfl⟩
  obtain ⟨y4, hy4⟩ : ∃ y, afterL xs p t0 = y := ⟨_, rfl⟩
  obtain ⟨y5, hy5⟩ : ∃ y, afterL y4 q t1 = y := ⟨_, rfl⟩
  have HW3 := Lib.hid (HWX.out.after HWP.out hnbl)
  have HE3 := Lib.hid (wear_ok HE.out rfl hn0 (HWX.out.mono (by omega)) (HWP.out.mono (by omega)) hnbl)
  have HS3 := Lib.hid (sumL_after xs p nb (by rw [HXL.out, HPL.out]) (by rw [HXL.out]; omega))
  rw [hy3] at HW3 HE3 HS3 hbest hplan1 hg1
  have HW4 := Lib.hid (HWX.out.after HWP.out ht0)
  have HE4 := Lib.hid (wear_ok HE.out rfl hn0 (HWX.out.mono (by omega)) (HWP.out.mono (by omega)) ht0)
  have HS4 := Lib.hid (sumL_after xs p t0 (by rw [HXL.out, HPL.out]) (by rw [HXL.out]; omega))
  rw [hy4] at HW4 HE4 HS4 hplan2 hg2
  have HW5 := Lib.hid (HW4.out.after HWQ.out ht1)
  have HE5 := Lib.hid (wear_ok HE.out rfl hn0 (HW4.out.mono (by omega)) (HWQ.out.mono (by omega)) ht1)
  have HS5 := Lib.hid (sumL_after y4 q t1 (by rw [HW4.out.len, HQL.out]) (by rw [HW4.out.len]; omega))
  rw [hy5] at HW5 HE5 HS5 hplan2 hg2
  have HBE := Lib.hid hbest
  have HP1 := Lib.hid hplan1
  have HP2 := Lib.hid hplan2
  have h3m := HW3.out.max hn0.1
  have h5m := HW5.out.max hn0.1
  have h3s := HW3.out.sum
  have h5s := HW5.out.sum
  rw [HS3.out] at h3s
  rw [HS5.out, HS4.out] at h5s
  rw [HS1.out] at HS2
  have hsx : 0 ≤ sumL xs ∧ sumL xs ≤ 20000 := ⟨(sumL_pos xs fun y hy => (HWX.out.pos y hy).1).1, by have := sumL_max xs 1000 fun y hy => (HWX.out.pos y hy).2; have := HXL.out; omega⟩
  have hsp : 0 ≤ sumL p ∧ sumL p ≤ 20000 := ⟨(sumL_pos p fun y hy => (HWP.out.pos y hy).1).1, by have := sumL_max p 1000 fun y hy => (HWP.out.pos y hy).2; have := HPL.out; omega⟩
  have hsq : 0 ≤ sumL q ∧ sumL q ≤ 20000 := ⟨(sumL_pos q fun y hy => (HWQ.out.pos y hy).1).1, by have := sumL_max q 1000 fun y hy => (HWQ.out.pos y hy).2; have := HQL.out; omega⟩
  have HL1 := Lib.hid HW1.out.len
  have HL2 := Lib.hid HW2.out.len
  have HL4 := Lib.hid HW4.out.len
  have HCX := Lib.hid (fun a c W h => calls_sum xs a c W h HWX.out n20 (by omega))
  have HCP := Lib.hid (fun a c W h => calls_sum p a c W h HWP.out n20 (by omega))
  have HCQ := Lib.hid (fun a c W h => calls_sum q a c W h HWQ.out n20 (by omega))
  have HC1 := Lib.hid (fun a c W h => calls_sum y1 a c W h HW1.out n20 (by omega))
  have HC2 := Lib.hid (fun a c W h => calls_sum y2 a c W h HW2.out n20 (by omega))
  rw [HS1.out] at HC1
  rw [HS2.out] at HC2
  have HM1 := Lib.hid (fun a c W h => calls_most y1 a c W h HW1.out hn0)
  have HM2 := Lib.hid (fun a c W h => calls_most y2 a c W h HW2.out hn0)
  have HM3 := Lib.hid (fun a c W h => calls_most y3 a c W h HW3.out hn0)
  have HM5 := Lib.hid (fun a c W h => calls_most y5 a c W h HW5.out hn0)
  generalize sumL xs = sx at *
  generalize sumL p = sp at *
  generalize sumL q = sq at *
  generalize maxL y1 = g1 at *
  generalize maxL y2 = g2 at *
  generalize maxL y3 = le at *
  generalize maxL y5 = en at *
  obtain ⟨sx0, sx1⟩ := hsx
  obtain ⟨sp0, sp1⟩ := hsp
  obtain ⟨sq0, sq1⟩ := hsq
  obtain ⟨h30, h31⟩ := h3m
  obtain ⟨h50, h51⟩ := h5m
  have h3p : 0 ≤ le * (b.nums.length : Int) ∧ le * (b.nums.length : Int) ≤ 40000 := by
    have := Int.mul_le_mul (a := le) (b := (b.nums.length : Int)) (c := 2000) (d := 20) (by omega) (by omega) (by omega) (by omega)
    exact ⟨Int.mul_nonneg h30 (by omega), by omega⟩
  have h5p : 0 ≤ en * (b.nums.length : Int) ∧ en * (b.nums.length : Int) ≤ 60000 := by
    have := Int.mul_le_mul (a := en) (b := (b.nums.length : Int)) (c := 3000) (d := 20) (by omega) (by omega) (by omega) (by omega)
    exact ⟨Int.mul_nonneg h50 (by omega), by omega⟩
  obtain ⟨h3p0, h3p1⟩ := h3p
  obtain ⟨h5p0, h5p1⟩ := h5p
  clear hy1 hy2 hy3 hy4 hy5 hbest hplan1 hplan2 hmin hmin2 HS1 HS2 HS3 HS4 HS5
  have n0 := HZ2.out.cell 0 (v := .int .u8 z0) rfl
  have n1 := HZ2.out.cell 1 (v := .int .u8 z1) rfl
  have nl := HZ2.out.lt
  have hi := HI.out
  have hk := HK.out
  go_upto_region 4 with fail
  refine wp_region_later (by kernel_rfl) (by kernel_rfl) ?_
  repeat (go_big_quiet_step (fail))
  refine wpQuiet_nil ?_
  intro w3 hw3
  obtain ⟨⟨w3, hx3⟩, rfl⟩ := hw3
  have HV3 := Lib.hid (HEV.out.ext hx3)
  have HX3 := Lib.hid (HX2.out.trans hx3)
  clear hx3 n0 n1 nl hi hk HZ2 HEV HX2
  go_upto_region 5 with fail
  have m0 : ∀ y : Lat NoX w3, y.world.cell? ⟨k7, 0, none⟩ = some (.int .i64 b.eye) := fun y => (HV3.out.blk.ext (Lat.ext0 y)).cell 0 rfl
  have m1 : ∀ y : Lat NoX w3, y.world.cell? ⟨k7, 1, none⟩ = some (.int .i64 b.bull) := fun y => (HV3.out.blk.ext (Lat.ext0 y)).cell 1 rfl
  have m2 : ∀ y : Lat NoX w3, y.world.cell? ⟨k7, 2, none⟩ = some (.slice a1 b.rings.length a4) := fun y => (HV3.out.blk.ext (Lat.ext0 y)).cell 2 rfl
  have m3 : ∀ y : Lat NoX w3, y.world.cell? ⟨k7, 3, none⟩ = some (.slice a2 b.lines.length a5) := fun y => (HV3.out.blk.ext (Lat.ext0 y)).cell 3 rfl
  have m4 : ∀ y : Lat NoX w3, y.world.cell? ⟨k7, 4, none⟩ = some (.slice a3 b.nums.length a6) := fun y => (HV3.out.blk.ext (Lat.ext0 y)).cell 4 rfl
  have m5 : ∀ y : Lat NoX w3, y.world.cell? ⟨k7, 5, none⟩ = some (.int .i64 b.wire) := fun y => (HV3.out.blk.ext (Lat.ext0 y)).cell 5 rfl
  have yc0 : ∀ y : Lat NoX w3, y.world.cell? ⟨vb, vo, none⟩ = some (.slice i0 p.length c0) := fun y => (Lat.ext0 y).cell HV3.out.cel0
  have yc1 : ∀ y : Lat NoX w3, y.world.cell? ⟨vb, vo + 1, none⟩ = some (.slice i1 q.length c1) := fun y => (Lat.ext0 y).cell HV3.out.cel1
  refine wp_region_ext (by kernel_rfl) [.no, .boa b b, .no, .rdi xs, .no, .no, .no, .rdi p, .no, .wrs y1] (by kernel_rfl) (Nat.le_of_ble_eq_true rfl) ?_
  intro T hT hne u hu
  obtain ⟨p1, p2, p3, p4, p5, p6, u1⟩ : BoaS b (u 1) := hu 1 rfl
  obtain ⟨fa, fc, u3⟩ : SlcS xs.length (u 3) := hu 3 rfl
  obtain ⟨ga, gc, u7⟩ : SlcS p.length (u 7) := hu 7 rfl
  obtain ⟨da, dc, u9⟩ : Tup1S y1.length (u 9) := hu 9 rfl
  clear hu
  refine lx_next 1 (by rfl) (by decide) ?_
  dsimp only [List.take, List.drop]
  repeat (go_big_quiet_step (fail))
  refine wpQuiet_nil ?_
  refine lx_loud (by rfl) (by kernel_rfl) ?_ (fun K hK => ?_)
  · intro L w3 hL hd hcl hC hs
    obtain ⟨y, rfl⟩ := hC
    have hxy := Lat.ext0 y

    go_wp2_with fail
    refine (law_own ⟨a1, a2, a3, a4, a5, a6⟩ b _ (HV3.out.brd.ext hxy) HN.out HSM.out).mono ?_
    rintro e w' ⟨v', rfl, hB', hN', -, hx⟩
    have HRK := Lib.hid (rik_call (i := 1) y hs ⟨_, _, _, _, _, _, rfl⟩ hx ⟨_, rfl, hB', hN'⟩)
    clear hs
    go_wp2
    exact HRK.out
  rw [u1]
  go_simp
  with_reducible refine hK _ ?_
  clear hK K
  refine lx_next 1 (by rfl) (by decide) ?_
  dsimp only [List.take, List.drop]
  repeat (go_big_quiet_step (fail))
  refine wpQuiet_nil ?_
  refine lx_loud (by rfl) (by kernel_rfl) ?_ (fun K hK => ?_)
  · intro L w3 hL hd hcl hC hs
    obtain ⟨y, rfl⟩ := hC
    have hxy := Lat.ext0 y

    go_wp2_with fail
    refine (calls_ints xs ua uc _ (HV3.out.worn.ext hxy) (by have := HXL.out; omega)).mono ?_
    rintro e w' ⟨xa, xc, rfl, hri, hx⟩
    have HRK := Lib.hid (rik_call (i := 3) y hs ⟨xa, xc, rfl⟩ hx hri)
    clear hs
    go_wp2
    exact HRK.out
  rw [u3]
  go_simp
  with_reducible refine hK _ ?_
  clear hK K
  refine lx_next 3 (by rfl) (by decide) ?_
  dsimp only [List.take, List.drop]
  repeat (go_big_quiet_step (fail))
  refine wpQuiet_nil ?_
  refine lx_loud (by rfl) (by kernel_rfl) ?_ (fun K hK => ?_)
  · intro L w3 hL hd hcl hC hs
    obtain ⟨y, rfl⟩ := hC
    have hxy := Lat.ext0 y

    go_wp2_with fail
    refine (calls_ints p i0 c0 _ (HV3.out.wk0.ext hxy) (by have := HPL.out; omega)).mono ?_
    rintro e w' ⟨xa, xc, rfl, hri, hx⟩
    have HRK := Lib.hid (rik_call (i := 7) y hs ⟨xa, xc, rfl⟩ hx hri)
    clear hs
    go_wp2
    exact HRK.out
  rw [u7]
  go_simp
  with_reducible refine hK _ ?_
  clear hK K
  refine lx_next 1 (by rfl) (by decide) ?_
  dsimp only [List.take, List.drop]
  repeat (go_big_quiet_step (fail))
  refine wpQuiet_nil ?_
  refine lx_loud (by rfl) (by kernel_rfl) ?_ (fun K hK => ?_)
  · intro L w3 hL hd hcl hC hs
    obtain ⟨y, rfl⟩ := hC
    have hxy := Lat.ext0 y
    have h1 := hs 1 rfl (hd 1 (by kernel_rfl))
    rw [u1] at h1
    obtain ⟨hB1, hN1⟩ := BoaT.at h1
    have h3 := hs 3 rfl (hd 3 (by kernel_rfl))
    rw [u3] at h3
    have h7 := hs 7 rfl (hd 7 (by kernel_rfl))
    rw [u7] at h7
    go_wp2_with fail
    refine (calls_wear ⟨p1, p2, p3, p4, p5, p6⟩ b xs p y1 fa ga fc gc i _ HE1.out hB1 HSM.out h3 h7).mono ?_
    rintro e w' ⟨xa, xc, rfl, hri, hx⟩
    have HRK := Lib.hid (rik_call (i := 9) y hs ⟨xa, xc, rfl⟩ hx ⟨xa, xc, rfl, hri⟩)
    clear hs
    go_wp2
    exact HRK.out
  rw [u9]
  go_simp
  with_reducible refine hK _ ?_
  clear hK K
  refine lx_next 5 (by rfl) (by decide) ?_
  dsimp only [List.take, List.drop]
  repeat (go_big_quiet_step (fail))
  refine wpQuiet_nil ?_
  refine lx_nil ?_
  intro y hs
  have hxy := Lat.ext0 y
  have h9 := hs 9 rfl rfl
  rw [u9] at h9
  have HY1 := Lib.hid h9.at
  have HV4 := Lib.hid (HV3.out.ext hxy)
  have HX4 := Lib.hid (HX3.out.trans hxy)
  generalize y.world = w4 at *
  clear hs hxy m0 m1 m2 m3 m4 m5 yc0 yc1 hT hne u1 u3 u7 u9 h9 HV3 HX3
  go_upto_region 6 with fail
  have m0 : ∀ y : Lat NoX w4, y.world.cell? ⟨k7, 0, none⟩ = some (.int .i64 b.eye) := fun y => (HV4.out.blk.ext (Lat.ext0 y)).cell 0 rfl
  have m1 : ∀ y : Lat NoX w4, y.world.cell? ⟨k7, 1, none⟩ = some (.int .i64 b.bull) := fun y => (HV4.out.blk.ext (Lat.ext0 y)).cell 1 rfl
  have m2 : ∀ y : Lat NoX w4, y.world.cell? ⟨k7, 2, none⟩ = some (.slice a1 b.rings.length a4) := fun y => (HV4.out.blk.ext (Lat.ext0 y)).cell 2 rfl
  have m3 : ∀ y : Lat NoX w4, y.world.cell? ⟨k7, 3, none⟩ = some (.slice a2 b.lines.length a5) := fun y => (HV4.out.blk.ext (Lat.ext0 y)).cell 3 rfl
  have m4 : ∀ y : Lat NoX w4, y.world.cell? ⟨k7, 4, none⟩ = some (.slice a3 b.nums.length a6) := fun y => (HV4.out.blk.ext (Lat.ext0 y)).cell 4 rfl
  have m5 : ∀ y : Lat NoX w4, y.world.cell? ⟨k7, 5, none⟩ = some (.int .i64 b.wire) := fun y => (HV4.out.blk.ext (Lat.ext0 y)).cell 5 rfl
  have yc0 : ∀ y : Lat NoX w4, y.world.cell? ⟨vb, vo, none⟩ = some (.slice i0 p.length c0) := fun y => (Lat.ext0 y).cell HV4.out.cel0
  have yc1 : ∀ y : Lat NoX w4, y.world.cell? ⟨vb, vo + 1, none⟩ = some (.slice i1 q.length c1) := fun y => (Lat.ext0 y).cell HV4.out.cel1
  refine wp_region_ext (by kernel_rfl) [.no, .boa b b, .no, .rdi xs, .no, .no, .no, .rdi p, .val (.tuple #[.int .i64 (nb : Int), .int .i64 le, .int .i64 0])] (by kernel_rfl) (Nat.le_of_ble_eq_true rfl) ?_
  intro T hT hne u hu
  obtain ⟨p1, p2, p3, p4, p5, p6, u1⟩ : BoaS b (u 1) := hu 1 rfl
  obtain ⟨fa, fc, u3⟩ : SlcS xs.length (u 3) := hu 3 rfl
  obtain ⟨ga, gc, u7⟩ : SlcS p.length (u 7) := hu 7 rfl
  have u8 : u 8 = .tuple #[.int .i64 (nb : Int), .int .i64 le, .int .i64 0] := hu 8 rfl
  clear hu
  refine lx_next 1 (by rfl) (by decide) ?_
  dsimp only [List.take, List.drop]
  repeat (go_big_quiet_step (fail))
  refine wpQuiet_nil ?_
  refine lx_loud (by rfl) (by kernel_rfl) ?_ (fun K hK => ?_)
  · intro L w3 hL hd hcl hC hs
    obtain ⟨y, rfl⟩ := hC
    have hxy := Lat.ext0 y

    go_wp2_with fail
    refine (law_own ⟨a1, a2, a3, a4, a5, a6⟩ b _ (HV4.out.brd.ext hxy) HN.out HSM.out).mono ?_
    rintro e w' ⟨v', rfl, hB', hN', -, hx⟩
    have HRK := Lib.hid (rik_call (i := 1) y hs ⟨_, _, _, _, _, _, rfl⟩ hx ⟨_, rfl, hB', hN'⟩)
    clear hs
    go_wp2
    exact HRK.out
  rw [u1]
  go_simp
  with_reducible refine hK _ ?_
  clear hK K
  refine lx_next 1 (by rfl) (by decide) ?_
  dsimp only [List.take, List.drop]
  repeat (go_big_quiet_step (fail))
  refine wpQuiet_nil ?_
  refine lx_loud (by rfl) (by kernel_rfl) ?_ (fun K hK => ?_)
  · intro L w3 hL hd hcl hC hs
    obtain ⟨y, rfl⟩ := hC
    have hxy := Lat.ext0 y

    go_wp2_with fail
    refine (calls_ints xs ua uc _ (HV4.out.worn.ext hxy) (by have := HXL.out; omega)).mono ?_
    rintro e w' ⟨xa, xc, rfl, hri, hx⟩
    have HRK := Lib.hid (rik_call (i := 3) y hs ⟨xa, xc, rfl⟩ hx hri)
    clear hs
    go_wp2
    exact HRK.out
  rw [u3]
  go_simp
  with_reducible refine hK _ ?_
  clear hK K
  refine lx_next 3 (by rfl) (by decide) ?_
  dsimp only [List.take, List.drop]
  repeat (go_big_quiet_step (fail))
  refine wpQuiet_nil ?_
  refine lx_loud (by rfl) (by kernel_rfl) ?_ (fun K hK => ?_)
  · intro L w3 hL hd hcl hC hs
    obtain ⟨y, rfl⟩ := hC
    have hxy := Lat.ext0 y

    go_wp2_with fail
    refine (calls_ints p i0 c0 _ (HV4.out.wk0.ext hxy) (by have := HPL.out; omega)).mono ?_
    rintro e w' ⟨xa, xc, rfl, hri, hx⟩
    have HRK := Lib.hid (rik_call (i := 7) y hs ⟨xa, xc, rfl⟩ hx hri)
    clear hs
    go_wp2
    exact HRK.out
  rw [u7]
  go_simp
  with_reducible refine hK _ ?_
  clear hK K
  refine lx_loud (by rfl) (by kernel_rfl) ?_ (fun K hK => ?_)
  · intro L w3 hL hd hcl hC hs
    obtain ⟨y, rfl⟩ := hC
    have hxy := Lat.ext0 y
    have h1 := hs 1 rfl (hd 1 (by kernel_rfl))
    rw [u1] at h1
    obtain ⟨hB1, hN1⟩ := BoaT.at h1
    have h3 := hs 3 rfl (hd 3 (by kernel_rfl))
    rw [u3] at h3
    have h7 := hs 7 rfl (hd 7 (by kernel_rfl))
    rw [u7] at h7
    go_wp2_with fail
    refine (calls_best ⟨p1, p2, p3, p4, p5, p6⟩ b xs p fa ga fc gc (nb : Int) le _ HBE.out hB1 HSM.out h3 h7).mono ?_
    rintro e w' ⟨rfl, hx⟩
    have HRK := Lib.hid (rik_call (i := 8) y hs rfl hx trivial)
    clear hs
    go_wp2
    exact HRK.out
  rw [u8]
  go_simp
  with_reducible refine hK _ ?_
  clear hK K
  refine lx_next 7 (by rfl) (by decide) ?_
  dsimp only [List.take, List.drop]
  repeat (go_big_quiet_step (fail))
  refine wpQuiet_nil ?_
  refine lx_nil ?_
  intro y hs
  have hxy := Lat.ext0 y
  have HV5 := Lib.hid (HV4.out.ext hxy)
  have HX5 := Lib.hid (HX4.out.trans hxy)
  have HY15 := Lib.hid (HY1.out.ext hxy)
  generalize y.world = w5 at *
  clear hs hxy m0 m1 m2 m3 m4 m5 yc0 yc1 hT hne u1 u3 u7 u8 HV4 HX4 HY1
  have hvc : 2 ≤ vc := by
    obtain ⟨_, _, e, h2, -⟩ := HV5.out.wks
    cases e
    simpa using h2
  have hsl : ∀ W', (Instr.slice 70 (.slice (some ⟨vb, vo, none⟩) 2 vc) none (some (.int .i64 1)) none).run Try.prog W' = .ok (.slice (some ⟨vb, vo, none⟩) 1 vc) W' := by
    intro W'
    simp [Instr.slice, go_sem]
    omega
  go_upto_region 7 with fail
  have m0 : ∀ y : Lat NoX w5, y.world.cell? ⟨k7, 0, none⟩ = some (.int .i64 b.eye) := fun y => (HV5.out.blk.ext (Lat.ext0 y)).cell 0 rfl
  have m1 : ∀ y : Lat NoX w5, y.world.cell? ⟨k7, 1, none⟩ = some (.int .i64 b.bull) := fun y => (HV5.out.blk.ext (Lat.ext0 y)).cell 1 rfl
  have m2 : ∀ y : Lat NoX w5, y.world.cell? ⟨k7, 2, none⟩ = some (.slice a1 b.rings.length a4) := fun y => (HV5.out.blk.ext (Lat.ext0 y)).cell 2 rfl
  have m3 : ∀ y : Lat NoX w5, y.world.cell? ⟨k7, 3, none⟩ = some (.slice a2 b.lines.length a5) := fun y => (HV5.out.blk.ext (Lat.ext0 y)).cell 3 rfl
  have m4 : ∀ y : Lat NoX w5, y.world.cell? ⟨k7, 4, none⟩ = some (.slice a3 b.nums.length a6) := fun y => (HV5.out.blk.ext (Lat.ext0 y)).cell 4 rfl
  have m5 : ∀ y : Lat NoX w5, y.world.cell? ⟨k7, 5, none⟩ = some (.int .i64 b.wire) := fun y => (HV5.out.blk.ext (Lat.ext0 y)).cell 5 rfl
  have yc0 : ∀ y : Lat NoX w5, y.world.cell? ⟨vb, vo, none⟩ = some (.slice i0 p.length c0) := fun y => (Lat.ext0 y).cell HV5.out.cel0
  have yc1 : ∀ y : Lat NoX w5, y.world.cell? ⟨vb, vo + 1, none⟩ = some (.slice i1 q.length c1) := fun y => (Lat.ext0 y).cell HV5.out.cel1
  refine wp_region_ext (by kernel_rfl) [.no, .boa b b, .no, .rdi xs, .no, .no, .wks [p], .pln [(nb : Int)] le] (by kernel_rfl) (Nat.le_of_ble_eq_true rfl) ?_
  intro T hT hne u hu
  obtain ⟨p1, p2, p3, p4, p5, p6, u1⟩ : BoaS b (u 1) := hu 1 rfl
  obtain ⟨fa, fc, u3⟩ : SlcS xs.length (u 3) := hu 3 rfl
  obtain ⟨ga, gc, u6⟩ : SlcS 1 (u 6) := hu 6 rfl
  obtain ⟨oa, oc, u7⟩ : Tup2S 1 le (u 7) := hu 7 rfl
  clear hu
  refine lx_next 1 (by rfl) (by decide) ?_
  dsimp only [List.take, List.drop]
  repeat (go_big_quiet_step (fail))
  refine wpQuiet_nil ?_
  refine lx_loud (by rfl) (by kernel_rfl) ?_ (fun K hK => ?_)
  · intro L w3 hL hd hcl hC hs
    obtain ⟨y, rfl⟩ := hC
    have hxy := Lat.ext0 y

    go_wp2_with fail
    refine (law_own ⟨a1, a2, a3, a4, a5, a6⟩ b _ (HV5.out.brd.ext hxy) HN.out HSM.out).mono ?_
    rintro e w' ⟨v', rfl, hB', hN', -, hx⟩
    have HRK := Lib.hid (rik_call (i := 1) y hs ⟨_, _, _, _, _, _, rfl⟩ hx ⟨_, rfl, hB', hN'⟩)
    clear hs
    go_wp2
    exact HRK.out
  rw [u1]
  go_simp
  with_reducible refine hK _ ?_
  clear hK K
  refine lx_next 1 (by rfl) (by decide) ?_
  dsimp only [List.take, List.drop]
  repeat (go_big_quiet_step (fail))
  refine wpQuiet_nil ?_
  refine lx_loud (by rfl) (by kernel_rfl) ?_ (fun K hK => ?_)
  · intro L w3 hL hd hcl hC hs
    obtain ⟨y, rfl⟩ := hC
    have hxy := Lat.ext0 y

    go_wp2_with fail
    refine (calls_ints xs ua uc _ (HV5.out.worn.ext hxy) (by have := HXL.out; omega)).mono ?_
    rintro e w' ⟨xa, xc, rfl, hri, hx⟩
    have HRK := Lib.hid (rik_call (i := 3) y hs ⟨xa, xc, rfl⟩ hx hri)
    clear hs
    go_wp2
    exact HRK.out
  rw [u3]
  go_simp
  with_reducible refine hK _ ?_
  clear hK K
  refine lx_next 2 (by rfl) (by decide) ?_
  dsimp only [List.take, List.drop]
  repeat (go_big_quiet_step (fail))
  refine wpQuiet_nil ?_
  refine lx_loud (by rfl) (by kernel_rfl) ?_ (fun K hK => ?_)
  · intro L w3 hL hd hcl hC hs
    obtain ⟨y, rfl⟩ := hC
    have hxy := Lat.ext0 y

    go_wp2_with fail
    refine (calls_weeks [p] (some ⟨vb, vo, none⟩) vc _ (HV5.out.wks.head1.ext hxy) (by simp) (fun wk h => by simp at h; subst h; have := HPL.out; omega)).mono ?_
    rintro e w' ⟨xa, xc, rfl, hri, hx⟩
    have HRK := Lib.hid (rik_call (i := 6) y hs ⟨xa, xc, rfl⟩ hx hri)
    clear hs
    go_wp2
    exact HRK.out
  rw [u6]
  go_simp
  with_reducible refine hK _ ?_
  clear hK K
  refine lx_loud (by rfl) (by kernel_rfl) ?_ (fun K hK => ?_)
  · intro L w3 hL hd hcl hC hs
    obtain ⟨y, rfl⟩ := hC
    have hxy := Lat.ext0 y
    have h1 := hs 1 rfl (hd 1 (by kernel_rfl))
    rw [u1] at h1
    obtain ⟨hB1, hN1⟩ := BoaT.at h1
    have h3 := hs 3 rfl (hd 3 (by kernel_rfl))
    rw [u3] at h3
    have h6 := hs 6 rfl (hd 6 (by kernel_rfl))
    rw [u6] at h6
    go_wp2_with fail
    refine (calls_plan ⟨p1, p2, p3, p4, p5, p6⟩ b xs [(nb : Int)] [p] fa ga fc gc le _ HP1.out hB1 HSM.out h3 h6 (by simp)).mono ?_
    rintro e w' ⟨xa, xc, rfl, hri, hx⟩
    have HRK := Lib.hid (rik_call (i := 7) y hs ⟨xa, xc, rfl⟩ hx ⟨xa, xc, rfl, hri⟩)
    clear hs
    go_wp2
    exact HRK.out
  rw [u7]
  go_simp
  with_reducible refine hK _ ?_
  clear hK K
  refine lx_next 7 (by rfl) (by decide) ?_
  dsimp only [List.take, List.drop]
  repeat (go_big_quiet_step (fail))
  refine wpQuiet_nil ?_
  refine lx_nil ?_
  intro y hs
  have hxy := Lat.ext0 y
  have h7 := hs 7 rfl rfl
  rw [u7] at h7
  have HO1 := Lib.hid (Tup2T.at (xs := [(nb : Int)]) h7)
  have HV6 := Lib.hid (HV5.out.ext hxy)
  have HX6 := Lib.hid (HX5.out.trans hxy)
  have HY16 := Lib.hid (HY15.out.ext hxy)
  generalize y.world = w6 at *
  clear hs hxy m0 m1 m2 m3 m4 m5 yc0 yc1 hT hne u1 u3 u6 u7 h7 HV5 HX5 HY15 hsl hvc
  go_upto_region 8 with fail
  obtain ⟨ob, oo, oc, e, hcc, -⟩ := HO1.out.head (by simp)
  cases e
  obtain ⟨_, _, e, o0⟩ := hcc 0 (by simp)
  cases e
  rw [Nat.add_zero] at o0
  simp only [List.getElem_cons_zero] at o0
  have ol := lt_of_cell o0
  simp only at ol
  have HLN := Lib.hid (show ((y1.length : Int) != (b.nums.length : Int)) = false by rw [HL1.out]; simp)
  clear hcc
  go_cut [127] from 86 to 127 (fun t wx => t = .bool false ∧ wx = w6)
  case first =>
    have hln := HLN.out
    go_wp2
    go_meet
    exact ⟨congrArg Value.bool (by simp; omega), rfl⟩
  case rest =>
  obtain ⟨rfl, rfl⟩ := hcut
  rename_i K0 b0
  refine b0 _ _ ?_
  clear o0 ol HO1 HLN
  go_upto_region 10 with fail
  have m0 : ∀ y : Lat NoX wc, y.world.cell? ⟨k7, 0, none⟩ = some (.int .i64 b.eye) := fun y => (HV6.out.blk.ext (Lat.ext0 y)).cell 0 rfl
  have m1 : ∀ y : Lat NoX wc, y.world.cell? ⟨k7, 1, none⟩ = some (.int .i64 b.bull) := fun y => (HV6.out.blk.ext (Lat.ext0 y)).cell 1 rfl
  have m2 : ∀ y : Lat NoX wc, y.world.cell? ⟨k7, 2, none⟩ = some (.slice a1 b.rings.length a4) := fun y => (HV6.out.blk.ext (Lat.ext0 y)).cell 2 rfl
  have m3 : ∀ y : Lat NoX wc, y.world.cell? ⟨k7, 3, none⟩ = some (.slice a2 b.lines.length a5) := fun y => (HV6.out.blk.ext (Lat.ext0 y)).cell 3 rfl
  have m4 : ∀ y : Lat NoX wc, y.world.cell? ⟨k7, 4, none⟩ = some (.slice a3 b.nums.length a6) := fun y => (HV6.out.blk.ext (Lat.ext0 y)).cell 4 rfl
  have m5 : ∀ y : Lat NoX wc, y.world.cell? ⟨k7, 5, none⟩ = some (.int .i64 b.wire) := fun y => (HV6.out.blk.ext (Lat.ext0 y)).cell 5 rfl
  have yc0 : ∀ y : Lat NoX wc, y.world.cell? ⟨vb, vo, none⟩ = some (.slice i0 p.length c0) := fun y => (Lat.ext0 y).cell HV6.out.cel0
  have yc1 : ∀ y : Lat NoX wc, y.world.cell? ⟨vb, vo + 1, none⟩ = some (.slice i1 q.length c1) := fun y => (Lat.ext0 y).cell HV6.out.cel1
  refine wp_region_ext (by kernel_rfl) [.no, .boa b b, .no, .rdi y1, .no, .no, .no, .rdi q, .no, .wrs y2] (by kernel_rfl) (Nat.le_of_ble_eq_true rfl) ?_
  intro T hT hne u hu
  obtain ⟨p1, p2, p3, p4, p5, p6, u1⟩ : BoaS b (u 1) := hu 1 rfl
  obtain ⟨fa, fc, u3⟩ : SlcS y1.length (u 3) := hu 3 rfl
  obtain ⟨ga, gc, u7⟩ : SlcS q.length (u 7) := hu 7 rfl
  obtain ⟨sa, sc, u9⟩ : Tup1S y2.length (u 9) := hu 9 rfl
  clear hu
  refine lx_next 1 (by rfl) (by decide) ?_
  dsimp only [List.take, List.drop]
  repeat (go_big_quiet_step (fail))
  refine wpQuiet_nil ?_
  refine lx_loud (by rfl) (by kernel_rfl) ?_ (fun K hK => ?_)
  · intro L w3 hL hd hcl hC hs
    obtain ⟨y, rfl⟩ := hC
    have hxy := Lat.ext0 y

    go_wp2_with fail
    refine (law_own ⟨a1, a2, a3, a4, a5, a6⟩ b _ (HV6.out.brd.ext hxy) HN.out HSM.out).mono ?_
    rintro e w' ⟨v', rfl, hB', hN', -, hx⟩
    have HRK := Lib.hid (rik_call (i := 1) y hs ⟨_, _, _, _, _, _, rfl⟩ hx ⟨_, rfl, hB', hN'⟩)
    clear hs
    go_wp2
    exact HRK.out
  rw [u1]
  go_simp
  with_reducible refine hK _ ?_
  clear hK K
  refine lx_next 1 (by rfl) (by decide) ?_
  dsimp only [List.take, List.drop]
  repeat (go_big_quiet_step (fail))
  refine wpQuiet_nil ?_
  refine lx_loud (by rfl) (by kernel_rfl) ?_ (fun K hK => ?_)
  · intro L w3 hL hd hcl hC hs
    obtain ⟨y, rfl⟩ := hC
    have hxy := Lat.ext0 y

    go_wp2_with fail
    refine (calls_ints y1 da dc _ (HY16.out.ext hxy) (by have := HL1.out; omega)).mono ?_
    rintro e w' ⟨xa, xc, rfl, hri, hx⟩
    have HRK := Lib.hid (rik_call (i := 3) y hs ⟨xa, xc, rfl⟩ hx hri)
    clear hs
    go_wp2
    exact HRK.out
  rw [u3]
  go_simp
  with_reducible refine hK _ ?_
  clear hK K
  refine lx_next 3 (by rfl) (by decide) ?_
  dsimp only [List.take, List.drop]
  repeat (go_big_quiet_step (fail))
  refine wpQuiet_nil ?_
  refine lx_loud (by rfl) (by kernel_rfl) ?_ (fun K hK => ?_)
  · intro L w3 hL hd hcl hC hs
    obtain ⟨y, rfl⟩ := hC
    have hxy := Lat.ext0 y

    go_wp2_with fail
    refine (calls_ints q i1 c1 _ (HV6.out.wk1.ext hxy) (by have := HQL.out; omega)).mono ?_
    rintro e w' ⟨xa, xc, rfl, hri, hx⟩
    have HRK := Lib.hid (rik_call (i := 7) y hs ⟨xa, xc, rfl⟩ hx hri)
    clear hs
    go_wp2
    exact HRK.out
  rw [u7]
  go_simp
  with_reducible refine hK _ ?_
  clear hK K
  refine lx_next 1 (by rfl) (by decide) ?_
  dsimp only [List.take, List.drop]
  repeat (go_big_quiet_step (fail))
  refine wpQuiet_nil ?_
  refine lx_loud (by rfl) (by kernel_rfl) ?_ (fun K hK => ?_)
  · intro L w3 hL hd hcl hC hs
    obtain ⟨y, rfl⟩ := hC
    have hxy := Lat.ext0 y
    have h1 := hs 1 rfl (hd 1 (by kernel_rfl))
    rw [u1] at h1
    obtain ⟨hB1, hN1⟩ := BoaT.at h1
    have h3 := hs 3 rfl (hd 3 (by kernel_rfl))
    rw [u3] at h3
    have h7 := hs 7 rfl (hd 7 (by kernel_rfl))
    rw [u7] at h7
    go_wp2_with fail
    refine (calls_wear ⟨p1, p2, p3, p4, p5, p6⟩ b y1 q y2 fa ga fc gc k _ HE2.out hB1 HSM.out h3 h7).mono ?_
    rintro e w' ⟨xa, xc, rfl, hri, hx⟩
    have HRK := Lib.hid (rik_call (i := 9) y hs ⟨xa, xc, rfl⟩ hx ⟨xa, xc, rfl, hri⟩)
    clear hs
    go_wp2
    exact HRK.out
  rw [u9]
  go_simp
  with_reducible refine hK _ ?_
  clear hK K
  refine lx_next 5 (by rfl) (by decide) ?_
  dsimp only [List.take, List.drop]
  repeat (go_big_quiet_step (fail))
  refine wpQuiet_nil ?_
  refine lx_nil ?_
  intro y hs
  have hxy := Lat.ext0 y
  have h9 := hs 9 rfl rfl
  rw [u9] at h9
  have HY2 := Lib.hid h9.at
  have HV7 := Lib.hid (HV6.out.ext hxy)
  have HX7 := Lib.hid (HX6.out.trans hxy)
  have HY17 := Lib.hid (HY16.out.ext hxy)
  generalize y.world = w7 at *
  clear hs hxy m0 m1 m2 m3 m4 m5 yc0 yc1 hT hne u1 u3 u7 u9 h9 HV6 HX6 HY16
  have m0 := HV7.out.blk.cell 0 (v := .int .i64 b.eye) rfl
  have m1 := HV7.out.blk.cell 1 (v := .int .i64 b.bull) rfl
  have m2 := HV7.out.blk.cell 2 (v := .slice a1 b.rings.length a4) rfl
  have m3 := HV7.out.blk.cell 3 (v := .slice a2 b.lines.length a5) rfl
  have m4 := HV7.out.blk.cell 4 (v := .slice a3 b.nums.length a6) rfl
  have m5 := HV7.out.blk.cell 5 (v := .int .i64 b.wire) rfl
  have ml := HV7.out.blk.lt
  go_wp2_with fail
  refine (law_own ⟨a1, a2, a3, a4, a5, a6⟩ b _ HV7.out.brd HN.out HSM.out).mono ?_
  rintro e w8 ⟨⟨p1, p2, p3, p4, p5, p6⟩, rfl, hB, -, -, hx8⟩
  have HB8 := Lib.hid hB
  have HX8 := Lib.hid hx8
  unfold BrdV.cells
  clear hB hx8
  go_wp2_with fail
  refine (calls_ints xs ua uc _ (HV7.out.worn.ext HX8.out) (by have := HXL.out; omega)).mono ?_
  rintro e w9 ⟨fa, fc, rfl, hrf, hx9⟩
  have HRF := Lib.hid hrf
  have HB9 := Lib.hid (HB8.out.ext hx9)
  have HX9 := Lib.hid (HX8.out.trans hx9)
  clear hrf hx9
  go_wp2_with fail
  refine (calls_weeks [p, q] (some ⟨vb, vo, none⟩) vc _ (HV7.out.wks.ext HX9.out) (by simp) (fun wk h => by simp at h; rcases h with rfl | rfl; (have := HPL.out; omega); (have := HQL.out; omega))).mono ?_
  rintro e w10 ⟨ga, gc, rfl, hrg, hx10⟩
  have HRG := Lib.hid hrg
  have HRF10 := Lib.hid (HRF.out.ext hx10)
  have HB10 := Lib.hid (HB9.out.ext hx10)
  have HX10 := Lib.hid (HX9.out.trans hx10)
  clear hrg hx10
  go_wp2_with fail
  refine (calls_plan ⟨p1, p2, p3, p4, p5, p6⟩ b xs [(t0 : Int), (t1 : Int)] [p, q] fa ga fc gc en _ HP2.out HB10.out HSM.out HRF10.out HRG.out (by simp)).mono ?_
  rintro e w11 ⟨ta, tc, rfl, hrt, hx11⟩
  have hx711 := HX10.out.trans hx11
  have HV8 := Lib.hid (HV7.out.ext hx711)
  have HX11 := Lib.hid (HX7.out.trans hx711)
  have HY18 := Lib.hid (HY17.out.ext hx711)
  have HY28 := Lib.hid (HY2.out.ext hx711)
  obtain ⟨tb, tq, tcc, e, hcc, -⟩ := hrt.head (by simp)
  cases e
  obtain ⟨_, _, e, o0⟩ := hcc 0 (by simp)
  cases e
  obtain ⟨_, _, e, o1⟩ := hcc 1 (by simp)
  cases e
  rw [Nat.add_zero] at o0
  simp only [List.getElem_cons_zero, List.getElem_cons_succ] at o0 o1
  have HT0 := Lib.hid o0
  have HT1 := Lib.hid o1
  have ol := lt_of_cell o0
  simp only at ol
  have HLN := Lib.hid (show ((y2.length : Int) != (b.nums.length : Int)) = false by rw [HL2.out]; simp)
  clear hrt hx11 hx711 hcc m0 m1 m2 m3 m4 m5 ml HV7 HX7 HY17 HY2 HB8 HB9 HB10 HRF HRF10 HRG HX8 HX9 HX10
  go_upto_region 12 with fail
  go_cut [194] from 152 to 194 (fun t wx => t = .bool false ∧ wx = w11)
  case first =>
    have hln := HLN.out
    go_wp2
    go_meet
    exact ⟨congrArg Value.bool (by simp; omega), rfl⟩
  case rest =>
  obtain ⟨rfl, rfl⟩ := hcut
  rename_i K0 b0
  refine b0 _ _ ?_
  clear o0 o1 ol HLN
  go_upto_region 14 with fail
  have m0 : ∀ y : Lat NoX wc, y.world.cell? ⟨k7, 0, none⟩ = some (.int .i64 b.eye) := fun y => (HV8.out.blk.ext (Lat.ext0 y)).cell 0 rfl
  have m1 : ∀ y : Lat NoX wc, y.world.cell? ⟨k7, 1, none⟩ = some (.int .i64 b.bull) := fun y => (HV8.out.blk.ext (Lat.ext0 y)).cell 1 rfl
  have m2 : ∀ y : Lat NoX wc, y.world.cell? ⟨k7, 2, none⟩ = some (.slice a1 b.rings.length a4) := fun y => (HV8.out.blk.ext (Lat.ext0 y)).cell 2 rfl
  have m3 : ∀ y : Lat NoX wc, y.world.cell? ⟨k7, 3, none⟩ = some (.slice a2 b.lines.length a5) := fun y => (HV8.out.blk.ext (Lat.ext0 y)).cell 3 rfl
  have m4 : ∀ y : Lat NoX wc, y.world.cell? ⟨k7, 4, none⟩ = some (.slice a3 b.nums.length a6) := fun y => (HV8.out.blk.ext (Lat.ext0 y)).cell 4 rfl
  have m5 : ∀ y : Lat NoX wc, y.world.cell? ⟨k7, 5, none⟩ = some (.int .i64 b.wire) := fun y => (HV8.out.blk.ext (Lat.ext0 y)).cell 5 rfl
  have yc0 : ∀ y : Lat NoX wc, y.world.cell? ⟨vb, vo, none⟩ = some (.slice i0 p.length c0) := fun y => (Lat.ext0 y).cell HV8.out.cel0
  have yc1 : ∀ y : Lat NoX wc, y.world.cell? ⟨vb, vo + 1, none⟩ = some (.slice i1 q.length c1) := fun y => (Lat.ext0 y).cell HV8.out.cel1
  refine wp_region_ext (by kernel_rfl) [.no, .boa b b, .no, .rdi xs, .no, .no, .no, .rdi p, .no, .wrs y3] (by kernel_rfl) (Nat.le_of_ble_eq_true rfl) ?_
  intro T hT hne u hu
  obtain ⟨p1, p2, p3, p4, p5, p6, u1⟩ : BoaS b (u 1) := hu 1 rfl
  obtain ⟨fa, fc, u3⟩ : SlcS xs.length (u 3) := hu 3 rfl
  obtain ⟨ga, gc, u7⟩ : SlcS p.length (u 7) := hu 7 rfl
  obtain ⟨ea, ec, u9⟩ : Tup1S y3.length (u 9) := hu 9 rfl
  clear hu
  refine lx_next 1 (by rfl) (by decide) ?_
  dsimp only [List.take, List.drop]
  repeat (go_big_quiet_step (fail))
  refine wpQuiet_nil ?_
  refine lx_loud (by rfl) (by kernel_rfl) ?_ (fun K hK => ?_)
  · intro L w3 hL hd hcl hC hs
    obtain ⟨y, rfl⟩ := hC
    have hxy := Lat.ext0 y

    go_wp2_with fail
    refine (law_own ⟨a1, a2, a3, a4, a5, a6⟩ b _ (HV8.out.brd.ext hxy) HN.out HSM.out).mono ?_
    rintro e w' ⟨v', rfl, hB', hN', -, hx⟩
    have HRK := Lib.hid (rik_call (i := 1) y hs ⟨_, _, _, _, _, _, rfl⟩ hx ⟨_, rfl, hB', hN'⟩)
    clear hs
    go_wp2
    exact HRK.out
  rw [u1]
  go_simp
  with_reducible refine hK _ ?_
  clear hK K
  refine lx_next 1 (by rfl) (by decide) ?_
  dsimp only [List.take, List.drop]
  repeat (go_big_quiet_step (fail))
  refine wpQuiet_nil ?_
  refine lx_loud (by rfl) (by kernel_rfl) ?_ (fun K hK => ?_)
  · intro L w3 hL hd hcl hC hs
    obtain ⟨y, rfl⟩ := hC
    have hxy := Lat.ext0 y

    go_wp2_with fail
    refine (calls_ints xs ua uc _ (HV8.out.worn.ext hxy) (by have := HXL.out; omega)).mono ?_
    rintro e w' ⟨xa, xc, rfl, hri, hx⟩
    have HRK := Lib.hid (rik_call (i := 3) y hs ⟨xa, xc, rfl⟩ hx hri)
    clear hs
    go_wp2
    exact HRK.out
  rw [u3]
  go_simp
  with_reducible refine hK _ ?_
  clear hK K
  refine lx_next 3 (by rfl) (by decide) ?_
  dsimp only [List.take, List.drop]
  repeat (go_big_quiet_step (fail))
  refine wpQuiet_nil ?_
  refine lx_loud (by rfl) (by kernel_rfl) ?_ (fun K hK => ?_)
  · intro L w3 hL hd hcl hC hs
    obtain ⟨y, rfl⟩ := hC
    have hxy := Lat.ext0 y

    go_wp2_with fail
    refine (calls_ints p i0 c0 _ (HV8.out.wk0.ext hxy) (by have := HPL.out; omega)).mono ?_
    rintro e w' ⟨xa, xc, rfl, hri, hx⟩
    have HRK := Lib.hid (rik_call (i := 7) y hs ⟨xa, xc, rfl⟩ hx hri)
    clear hs
    go_wp2
    exact HRK.out
  rw [u7]
  go_simp
  with_reducible refine hK _ ?_
  clear hK K
  refine lx_next 1 (by rfl) (by decide) ?_
  dsimp only [List.take, List.drop]
  repeat (go_big_quiet_step (fail))
  refine wpQuiet_nil ?_
  refine lx_loud (by rfl) (by kernel_rfl) ?_ (fun K hK => ?_)
  · intro L w3 hL hd hcl hC hs
    obtain ⟨y, rfl⟩ := hC
    have hxy := Lat.ext0 y
    have h1 := hs 1 rfl (hd 1 (by kernel_rfl))
    rw [u1] at h1
    obtain ⟨hB1, hN1⟩ := BoaT.at h1
    have h3 := hs 3 rfl (hd 3 (by kernel_rfl))
    rw [u3] at h3
    have h7 := hs 7 rfl (hd 7 (by kernel_rfl))
    rw [u7] at h7
    go_wp2_with fail
    refine (calls_wear ⟨p1, p2, p3, p4, p5, p6⟩ b xs p y3 fa ga fc gc nb _ HE3.out hB1 HSM.out h3 h7).mono ?_
    rintro e w' ⟨xa, xc, rfl, hri, hx⟩
    have HRK := Lib.hid (rik_call (i := 9) y hs ⟨xa, xc, rfl⟩ hx ⟨xa, xc, rfl, hri⟩)
    clear hs
    go_wp2
    exact HRK.out
  rw [u9]
  go_simp
  with_reducible refine hK _ ?_
  clear hK K
  refine lx_next 5 (by rfl) (by decide) ?_
  dsimp only [List.take, List.drop]
  repeat (go_big_quiet_step (fail))
  refine wpQuiet_nil ?_
  refine lx_nil ?_
  intro y hs
  have hxy := Lat.ext0 y
  have h9 := hs 9 rfl rfl
  rw [u9] at h9
  have HY3 := Lib.hid h9.at
  have HV9 := Lib.hid (HV8.out.ext hxy)
  have HX12 := Lib.hid (HX11.out.trans hxy)
  have HY19 := Lib.hid (HY18.out.ext hxy)
  have HY29 := Lib.hid (HY28.out.ext hxy)
  have HT09 := Lib.hid (hxy.cell HT0.out)
  have HT19 := Lib.hid (hxy.cell HT1.out)
  generalize y.world = w12 at *
  clear hs hxy m0 m1 m2 m3 m4 m5 yc0 yc1 hT hne u1 u3 u7 u9 h9 HV8 HX11 HY18 HY28 HT0 HT1
  go_upto_region 15 with fail
  have o0 : ∀ y : Lat NoX w12, y.world.cell? ⟨tb, tq, none⟩ = some (.int .i64 t0) := fun y => (Lat.ext0 y).cell HT09.out
  have m0 : ∀ y : Lat NoX w12, y.world.cell? ⟨k7, 0, none⟩ = some (.int .i64 b.eye) := fun y => (HV9.out.blk.ext (Lat.ext0 y)).cell 0 rfl
  have m1 : ∀ y : Lat NoX w12, y.world.cell? ⟨k7, 1, none⟩ = some (.int .i64 b.bull) := fun y => (HV9.out.blk.ext (Lat.ext0 y)).cell 1 rfl
  have m2 : ∀ y : Lat NoX w12, y.world.cell? ⟨k7, 2, none⟩ = some (.slice a1 b.rings.length a4) := fun y => (HV9.out.blk.ext (Lat.ext0 y)).cell 2 rfl
  have m3 : ∀ y : Lat NoX w12, y.world.cell? ⟨k7, 3, none⟩ = some (.slice a2 b.lines.length a5) := fun y => (HV9.out.blk.ext (Lat.ext0 y)).cell 3 rfl
  have m4 : ∀ y : Lat NoX w12, y.world.cell? ⟨k7, 4, none⟩ = some (.slice a3 b.nums.length a6) := fun y => (HV9.out.blk.ext (Lat.ext0 y)).cell 4 rfl
  have m5 : ∀ y : Lat NoX w12, y.world.cell? ⟨k7, 5, none⟩ = some (.int .i64 b.wire) := fun y => (HV9.out.blk.ext (Lat.ext0 y)).cell 5 rfl
  have yc0 : ∀ y : Lat NoX w12, y.world.cell? ⟨vb, vo, none⟩ = some (.slice i0 p.length c0) := fun y => (Lat.ext0 y).cell HV9.out.cel0
  have yc1 : ∀ y : Lat NoX w12, y.world.cell? ⟨vb, vo + 1, none⟩ = some (.slice i1 q.length c1) := fun y => (Lat.ext0 y).cell HV9.out.cel1
  refine wp_region_ext (by kernel_rfl) [.no, .boa b b, .no, .rdi xs, .no, .no, .no, .rdi p, .no, .no, .no, .wrs y4] (by kernel_rfl) (Nat.le_of_ble_eq_true rfl) ?_
  intro T hT hne u hu
  obtain ⟨p1, p2, p3, p4, p5, p6, u1⟩ : BoaS b (u 1) := hu 1 rfl
  obtain ⟨fa, fc, u3⟩ : SlcS xs.length (u 3) := hu 3 rfl
  obtain ⟨ga, gc, u7⟩ : SlcS p.length (u 7) := hu 7 rfl
  obtain ⟨ha, hc, u11⟩ : Tup1S y4.length (u 11) := hu 11 rfl
  clear hu
  refine lx_next 1 (by rfl) (by decide) ?_
  dsimp only [List.take, List.drop]
  repeat (go_big_quiet_step (fail))
  refine wpQuiet_nil ?_
  refine lx_loud (by rfl) (by kernel_rfl) ?_ (fun K hK => ?_)
  · intro L w3 hL hd hcl hC hs
    obtain ⟨y, rfl⟩ := hC
    have hxy := Lat.ext0 y

    go_wp2_with fail
    refine (law_own ⟨a1, a2, a3, a4, a5, a6⟩ b _ (HV9.out.brd.ext hxy) HN.out HSM.out).mono ?_
    rintro e w' ⟨v', rfl, hB', hN', -, hx⟩
    have HRK := Lib.hid (rik_call (i := 1) y hs ⟨_, _, _, _, _, _, rfl⟩ hx ⟨_, rfl, hB', hN'⟩)
    clear hs
    go_wp2
    exact HRK.out
  rw [u1]
  go_simp
  with_reducible refine hK _ ?_
  clear hK K
  refine lx_next 1 (by rfl) (by decide) ?_
  dsimp only [List.take, List.drop]
  repeat (go_big_quiet_step (fail))
  refine wpQuiet_nil ?_
  refine lx_loud (by rfl) (by kernel_rfl) ?_ (fun K hK => ?_)
  · intro L w3 hL hd hcl hC hs
    obtain ⟨y, rfl⟩ := hC
    have hxy := Lat.ext0 y

    go_wp2_with fail
    refine (calls_ints xs ua uc _ (HV9.out.worn.ext hxy) (by have := HXL.out; omega)).mono ?_
    rintro e w' ⟨xa, xc, rfl, hri, hx⟩
    have HRK := Lib.hid (rik_call (i := 3) y hs ⟨xa, xc, rfl⟩ hx hri)
    clear hs
    go_wp2
    exact HRK.out
  rw [u3]
  go_simp
  with_reducible refine hK _ ?_
  clear hK K
  refine lx_next 3 (by rfl) (by decide) ?_
  dsimp only [List.take, List.drop]
  repeat (go_big_quiet_step (fail))
  refine wpQuiet_nil ?_
  refine lx_loud (by rfl) (by kernel_rfl) ?_ (fun K hK => ?_)
  · intro L w3 hL hd hcl hC hs
    obtain ⟨y, rfl⟩ := hC
    have hxy := Lat.ext0 y

    go_wp2_with fail
    refine (calls_ints p i0 c0 _ (HV9.out.wk0.ext hxy) (by have := HPL.out; omega)).mono ?_
    rintro e w' ⟨xa, xc, rfl, hri, hx⟩
    have HRK := Lib.hid (rik_call (i := 7) y hs ⟨xa, xc, rfl⟩ hx hri)
    clear hs
    go_wp2
    exact HRK.out
  rw [u7]
  go_simp
  with_reducible refine hK _ ?_
  clear hK K
  refine lx_next 3 (by rfl) (by decide) ?_
  dsimp only [List.take, List.drop]
  repeat (go_big_quiet_step (fail))
  refine wpQuiet_nil ?_
  refine lx_loud (by rfl) (by kernel_rfl) ?_ (fun K hK => ?_)
  · intro L w3 hL hd hcl hC hs
    obtain ⟨y, rfl⟩ := hC
    have hxy := Lat.ext0 y
    have h1 := hs 1 rfl (hd 1 (by kernel_rfl))
    rw [u1] at h1
    obtain ⟨hB1, hN1⟩ := BoaT.at h1
    have h3 := hs 3 rfl (hd 3 (by kernel_rfl))
    rw [u3] at h3
    have h7 := hs 7 rfl (hd 7 (by kernel_rfl))
    rw [u7] at h7
    go_wp2_with fail
    refine (calls_wear ⟨p1, p2, p3, p4, p5, p6⟩ b xs p y4 fa ga fc gc t0 _ HE4.out hB1 HSM.out h3 h7).mono ?_
    rintro e w' ⟨xa, xc, rfl, hri, hx⟩
    have HRK := Lib.hid (rik_call (i := 11) y hs ⟨xa, xc, rfl⟩ hx ⟨xa, xc, rfl, hri⟩)
    clear hs
    go_wp2
    exact HRK.out
  rw [u11]
  go_simp
  with_reducible refine hK _ ?_
  clear hK K
  refine lx_next 5 (by rfl) (by decide) ?_
  dsimp only [List.take, List.drop]
  repeat (go_big_quiet_step (fail))
  refine wpQuiet_nil ?_
  refine lx_nil ?_
  intro y hs
  have hxy := Lat.ext0 y
  have h11 := hs 11 rfl rfl
  rw [u11] at h11
  have HY4 := Lib.hid h11.at
  have HV10 := Lib.hid (HV9.out.ext hxy)
  have HX13 := Lib.hid (HX12.out.trans hxy)
  have HY110 := Lib.hid (HY19.out.ext hxy)
  have HY210 := Lib.hid (HY29.out.ext hxy)
  have HY310 := Lib.hid (HY3.out.ext hxy)
  have HT110 := Lib.hid (hxy.cell HT19.out)
  generalize y.world = w13 at *
  clear hs hxy m0 m1 m2 m3 m4 m5 yc0 yc1 hT hne u1 u3 u7 u11 h11 HV9 HX12 HY19 HY29 HT09 HT19 o0
  go_wp2_with fail
  refine (HM3.out _ _ _ HY310.out).mono ?_
  rintro e w14 ⟨rfl, hx14⟩
  have HV11 := Lib.hid (HV10.out.ext hx14)
  have HX14 := Lib.hid (HX13.out.trans hx14)
  have HY111 := Lib.hid (HY110.out.ext hx14)
  have HY211 := Lib.hid (HY210.out.ext hx14)
  have HY411 := Lib.hid (HY4.out.ext hx14)
  have HT111 := Lib.hid (hx14.cell HT110.out)
  clear hx14 HV10 HX13 HY110 HY210 HY310 HY4 HT110
  go_upto_region 18 with fail
  have o1 : ∀ y : Lat NoX w14, y.world.cell? ⟨tb, tq + 1, none⟩ = some (.int .i64 t1) := fun y => (Lat.ext0 y).cell HT111.out
  have m0 : ∀ y : Lat NoX w14, y.world.cell? ⟨k7, 0, none⟩ = some (.int .i64 b.eye) := fun y => (HV11.out.blk.ext (Lat.ext0 y)).cell 0 rfl
  have m1 : ∀ y : Lat NoX w14, y.world.cell? ⟨k7, 1, none⟩ = some (.int .i64 b.bull) := fun y => (HV11.out.blk.ext (Lat.ext0 y)).cell 1 rfl
  have m2 : ∀ y : Lat NoX w14, y.world.cell? ⟨k7, 2, none⟩ = some (.slice a1 b.rings.length a4) := fun y => (HV11.out.blk.ext (Lat.ext0 y)).cell 2 rfl
  have m3 : ∀ y : Lat NoX w14, y.world.cell? ⟨k7, 3, none⟩ = some (.slice a2 b.lines.length a5) := fun y => (HV11.out.blk.ext (Lat.ext0 y)).cell 3 rfl
  have m4 : ∀ y : Lat NoX w14, y.world.cell? ⟨k7, 4, none⟩ = some (.slice a3 b.nums.length a6) := fun y => (HV11.out.blk.ext (Lat.ext0 y)).cell 4 rfl
  have m5 : ∀ y : Lat NoX w14, y.world.cell? ⟨k7, 5, none⟩ = some (.int .i64 b.wire) := fun y => (HV11.out.blk.ext (Lat.ext0 y)).cell 5 rfl
  have yc0 : ∀ y : Lat NoX w14, y.world.cell? ⟨vb, vo, none⟩ = some (.slice i0 p.length c0) := fun y => (Lat.ext0 y).cell HV11.out.cel0
  have yc1 : ∀ y : Lat NoX w14, y.world.cell? ⟨vb, vo + 1, none⟩ = some (.slice i1 q.length c1) := fun y => (Lat.ext0 y).cell HV11.out.cel1
  refine wp_region_ext (by kernel_rfl) [.no, .boa b b, .no, .rdi y4, .no, .no, .no, .rdi q, .no, .no, .no, .wrs y5] (by kernel_rfl) (Nat.le_of_ble_eq_true rfl) ?_
  intro T hT hne u hu
  obtain ⟨p1, p2, p3, p4, p5, p6, u1⟩ : BoaS b (u 1) := hu 1 rfl
  obtain ⟨fa, fc, u3⟩ : SlcS y4.length (u 3) := hu 3 rfl
  obtain ⟨ga, gc, u7⟩ : SlcS q.length (u 7) := hu 7 rfl
  obtain ⟨d2a, d2c, u11⟩ : Tup1S y5.length (u 11) := hu 11 rfl
  clear hu
  refine lx_next 1 (by rfl) (by decide) ?_
  dsimp only [List.take, List.drop]
  repeat (go_big_quiet_step (fail))
  refine wpQuiet_nil ?_
  refine lx_loud (by rfl) (by kernel_rfl) ?_ (fun K hK => ?_)
  · intro L w3 hL hd hcl hC hs
    obtain ⟨y, rfl⟩ := hC
    have hxy := Lat.ext0 y

    go_wp2_with fail
    refine (law_own ⟨a1, a2, a3, a4, a5, a6⟩ b _ (HV11.out.brd.ext hxy) HN.out HSM.out).mono ?_
    rintro e w' ⟨v', rfl, hB', hN', -, hx⟩
    have HRK := Lib.hid (rik_call (i := 1) y hs ⟨_, _, _, _, _, _, rfl⟩ hx ⟨_, rfl, hB', hN'⟩)
    clear hs
    go_wp2
    exact HRK.out
  rw [u1]
  go_simp
  with_reducible refine hK _ ?_
  clear hK K
  refine lx_next 1 (by rfl) (by decide) ?_
  dsimp only [List.take, List.drop]
  repeat (go_big_quiet_step (fail))
  refine wpQuiet_nil ?_
  refine lx_loud (by rfl) (by kernel_rfl) ?_ (fun K hK => ?_)
  · intro L w3 hL hd hcl hC hs
    obtain ⟨y, rfl⟩ := hC
    have hxy := Lat.ext0 y

    go_wp2_with fail
    refine (calls_ints y4 ha hc _ (HY411.out.ext hxy) (by have := HL4.out; omega)).mono ?_
    rintro e w' ⟨xa, xc, rfl, hri, hx⟩
    have HRK := Lib.hid (rik_call (i := 3) y hs ⟨xa, xc, rfl⟩ hx hri)
    clear hs
    go_wp2
    exact HRK.out
  rw [u3]
  go_simp
  with_reducible refine hK _ ?_
  clear hK K
  refine lx_next 3 (by rfl) (by decide) ?_
  dsimp only [List.take, List.drop]
  repeat (go_big_quiet_step (fail))
  refine wpQuiet_nil ?_
  refine lx_loud (by rfl) (by kernel_rfl) ?_ (fun K hK => ?_)
  · intro L w3 hL hd hcl hC hs
    obtain ⟨y, rfl⟩ := hC
    have hxy := Lat.ext0 y

    go_wp2_with fail
    refine (calls_ints q i1 c1 _ (HV11.out.wk1.ext hxy) (by have := HQL.out; omega)).mono ?_
    rintro e w' ⟨xa, xc, rfl, hri, hx⟩
    have HRK := Lib.hid (rik_call (i := 7) y hs ⟨xa, xc, rfl⟩ hx hri)
    clear hs
    go_wp2
    exact HRK.out
  rw [u7]
  go_simp
  with_reducible refine hK _ ?_
  clear hK K
  refine lx_next 3 (by rfl) (by decide) ?_
  dsimp only [List.take, List.drop]
  repeat (go_big_quiet_step (fail))
  refine wpQuiet_nil ?_
  refine lx_loud (by rfl) (by kernel_rfl) ?_ (fun K hK => ?_)
  · intro L w3 hL hd hcl hC hs
    obtain ⟨y, rfl⟩ := hC
    have hxy := Lat.ext0 y
    have h1 := hs 1 rfl (hd 1 (by kernel_rfl))
    rw [u1] at h1
    obtain ⟨hB1, hN1⟩ := BoaT.at h1
    have h3 := hs 3 rfl (hd 3 (by kernel_rfl))
    rw [u3] at h3
    have h7 := hs 7 rfl (hd 7 (by kernel_rfl))
    rw [u7] at h7
    go_wp2_with fail
    refine (calls_wear ⟨p1, p2, p3, p4, p5, p6⟩ b y4 q y5 fa ga fc gc t1 _ HE5.out hB1 HSM.out h3 h7).mono ?_
    rintro e w' ⟨xa, xc, rfl, hri, hx⟩
    have HRK := Lib.hid (rik_call (i := 11) y hs ⟨xa, xc, rfl⟩ hx ⟨xa, xc, rfl, hri⟩)
    clear hs
    go_wp2
    exact HRK.out
  rw [u11]
  go_simp
  with_reducible refine hK _ ?_
  clear hK K
  refine lx_next 5 (by rfl) (by decide) ?_
  dsimp only [List.take, List.drop]
  repeat (go_big_quiet_step (fail))
  refine wpQuiet_nil ?_
  refine lx_nil ?_
  intro y hs
  have hxy := Lat.ext0 y
  have h11 := hs 11 rfl rfl
  rw [u11] at h11
  have HY5 := Lib.hid h11.at
  have HV12 := Lib.hid (HV11.out.ext hxy)
  have HX15 := Lib.hid (HX14.out.trans hxy)
  have HY112 := Lib.hid (HY111.out.ext hxy)
  have HY212 := Lib.hid (HY211.out.ext hxy)
  generalize y.world = w15 at *
  clear hs hxy m0 m1 m2 m3 m4 m5 yc0 yc1 hT hne u1 u3 u7 u11 h11 HV11 HX14 HY111 HY211 HY411 HT111 o1
  go_upto_region 19 with fail
  have m0 : ∀ y : Lat NoX w15, y.world.cell? ⟨k7, 0, none⟩ = some (.int .i64 b.eye) := fun y => (HV12.out.blk.ext (Lat.ext0 y)).cell 0 rfl
  have m1 : ∀ y : Lat NoX w15, y.world.cell? ⟨k7, 1, none⟩ = some (.int .i64 b.bull) := fun y => (HV12.out.blk.ext (Lat.ext0 y)).cell 1 rfl
  have m2 : ∀ y : Lat NoX w15, y.world.cell? ⟨k7, 2, none⟩ = some (.slice a1 b.rings.length a4) := fun y => (HV12.out.blk.ext (Lat.ext0 y)).cell 2 rfl
  have m3 : ∀ y : Lat NoX w15, y.world.cell? ⟨k7, 3, none⟩ = some (.slice a2 b.lines.length a5) := fun y => (HV12.out.blk.ext (Lat.ext0 y)).cell 3 rfl
  have m4 : ∀ y : Lat NoX w15, y.world.cell? ⟨k7, 4, none⟩ = some (.slice a3 b.nums.length a6) := fun y => (HV12.out.blk.ext (Lat.ext0 y)).cell 4 rfl
  have m5 : ∀ y : Lat NoX w15, y.world.cell? ⟨k7, 5, none⟩ = some (.int .i64 b.wire) := fun y => (HV12.out.blk.ext (Lat.ext0 y)).cell 5 rfl
  have yc0 : ∀ y : Lat NoX w15, y.world.cell? ⟨vb, vo, none⟩ = some (.slice i0 p.length c0) := fun y => (Lat.ext0 y).cell HV12.out.cel0
  have yc1 : ∀ y : Lat NoX w15, y.world.cell? ⟨vb, vo + 1, none⟩ = some (.slice i1 q.length c1) := fun y => (Lat.ext0 y).cell HV12.out.cel1
  refine wp_region_ext (by kernel_rfl) [.no, .val (.int .i64 sx), .no, .no, .no, .val (.int .i64 sp)] (by kernel_rfl) (Nat.le_of_ble_eq_true rfl) ?_
  intro T hT hne u hu
  have u1 : u 1 = .int .i64 sx := hu 1 rfl
  have u5 : u 5 = .int .i64 sp := hu 5 rfl
  clear hu
  refine lx_next 1 (by rfl) (by decide) ?_
  dsimp only [List.take, List.drop]
  repeat (go_big_quiet_step (fail))
  refine wpQuiet_nil ?_
  refine lx_loud (by rfl) (by kernel_rfl) ?_ (fun K hK => ?_)
  · intro L w3 hL hd hcl hC hs
    obtain ⟨y, rfl⟩ := hC
    have hxy := Lat.ext0 y

    go_wp2_with fail
    refine (HCX.out ua uc _ (HV12.out.worn.ext hxy)).mono ?_
    rintro e w' ⟨rfl, hx⟩
    have HRK := Lib.hid (rik_call (i := 1) y hs rfl hx trivial)
    clear hs
    go_wp2
    exact HRK.out
  rw [u1]
  go_simp
  with_reducible refine hK _ ?_
  clear hK K
  refine lx_next 3 (by rfl) (by decide) ?_
  dsimp only [List.take, List.drop]
  repeat (go_big_quiet_step (fail))
  refine wpQuiet_nil ?_
  refine lx_loud (by rfl) (by kernel_rfl) ?_ (fun K hK => ?_)
  · intro L w3 hL hd hcl hC hs
    obtain ⟨y, rfl⟩ := hC
    have hxy := Lat.ext0 y

    go_wp2_with fail
    refine (HCP.out i0 c0 _ (HV12.out.wk0.ext hxy)).mono ?_
    rintro e w' ⟨rfl, hx⟩
    have HRK := Lib.hid (rik_call (i := 5) y hs rfl hx trivial)
    clear hs
    go_wp2
    exact HRK.out
  rw [u5]
  go_simp
  with_reducible refine hK _ ?_
  clear hK K
  refine lx_next 2 (by rfl) (by decide) ?_
  dsimp only [List.take, List.drop]
  repeat (go_big_quiet_step (fail))
  refine wpQuiet_nil ?_
  refine lx_nil ?_
  intro y hs
  have hxy := Lat.ext0 y
  have HV13 := Lib.hid (HV12.out.ext hxy)
  have HX16 := Lib.hid (HX15.out.trans hxy)
  have HY113 := Lib.hid (HY112.out.ext hxy)
  have HY213 := Lib.hid (HY212.out.ext hxy)
  have HY513 := Lib.hid (HY5.out.ext hxy)
  generalize y.world = w16 at *
  clear hs hxy m0 m1 m2 m3 m4 m5 yc0 yc1 hT hne u1 u5 HV12 HX15 HY112 HY212 HY5
  have hd1 : decide (le ≤ g1) = true := decide_eq_true hg1
  have hd2 : decide (en ≤ g2) = true := decide_eq_true hg2
  have hd3 : decide (sx + sp ≤ le * (b.nums.length : Int)) = true := decide_eq_true h3s
  have hd4 : decide (sx + sp + sq ≤ en * (b.nums.length : Int)) = true := decide_eq_true h5s
  go_upto_region 20 with fail
  have m0 : ∀ y : Lat NoX w16, y.world.cell? ⟨k7, 0, none⟩ = some (.int .i64 b.eye) := fun y => (HV13.out.blk.ext (Lat.ext0 y)).cell 0 rfl
  have m1 : ∀ y : Lat NoX w16, y.world.cell? ⟨k7, 1, none⟩ = some (.int .i64 b.bull) := fun y => (HV13.out.blk.ext (Lat.ext0 y)).cell 1 rfl
  have m2 : ∀ y : Lat NoX w16, y.world.cell? ⟨k7, 2, none⟩ = some (.slice a1 b.rings.length a4) := fun y => (HV13.out.blk.ext (Lat.ext0 y)).cell 2 rfl
  have m3 : ∀ y : Lat NoX w16, y.world.cell? ⟨k7, 3, none⟩ = some (.slice a2 b.lines.length a5) := fun y => (HV13.out.blk.ext (Lat.ext0 y)).cell 3 rfl
  have m4 : ∀ y : Lat NoX w16, y.world.cell? ⟨k7, 4, none⟩ = some (.slice a3 b.nums.length a6) := fun y => (HV13.out.blk.ext (Lat.ext0 y)).cell 4 rfl
  have m5 : ∀ y : Lat NoX w16, y.world.cell? ⟨k7, 5, none⟩ = some (.int .i64 b.wire) := fun y => (HV13.out.blk.ext (Lat.ext0 y)).cell 5 rfl
  have yc0 : ∀ y : Lat NoX w16, y.world.cell? ⟨vb, vo, none⟩ = some (.slice i0 p.length c0) := fun y => (Lat.ext0 y).cell HV13.out.cel0
  have yc1 : ∀ y : Lat NoX w16, y.world.cell? ⟨vb, vo + 1, none⟩ = some (.slice i1 q.length c1) := fun y => (Lat.ext0 y).cell HV13.out.cel1
  refine wp_region_ext (by kernel_rfl) [.no, .no, .no, .no, .val (.int .i64 en), .no, .no, .no, .no, .no, .val (.int .i64 (sx + sp)), .no, .no, .no, .no, .no, .val (.int .i64 (sx + sp + sq)), .no, .no, .no, .no, .val (.int .i64 sq), .no, .no, .no, .no, .no, .val (.int .i64 g1), .no, .no, .no, .no, .no, .val (.int .i64 g2), .no, .no, .no, .no, .no, .no, .no, .no, .no, .no, .no, .no, .no, .no, .no, .no, .no, .no, .val (.int .i64 sq), .no, .no, .no, .no, .val (.bool true)] (by kernel_rfl) (Nat.le_of_ble_eq_true rfl) ?_
  intro T hT hne u hu
  have u4 : u 4 = .int .i64 en := hu 4 rfl
  have u10 : u 10 = .int .i64 (sx + sp) := hu 10 rfl
  have u16 : u 16 = .int .i64 (sx + sp + sq) := hu 16 rfl
  have u21 : u 21 = .int .i64 sq := hu 21 rfl
  have u27 : u 27 = .int .i64 g1 := hu 27 rfl
  have u33 : u 33 = .int .i64 g2 := hu 33 rfl
  have u52 : u 52 = .int .i64 sq := hu 52 rfl
  have u57 : u 57 = .bool true := hu 57 rfl
  clear hu
  refine lx_next 4 (by rfl) (by decide) ?_
  dsimp only [List.take, List.drop]
  repeat (go_big_quiet_step (fail))
  refine wpQuiet_nil ?_
  refine lx_loud (by rfl) (by kernel_rfl) ?_ (fun K hK => ?_)
  · intro L w3 hL hd hcl hC hs
    obtain ⟨y, rfl⟩ := hC
    have hxy := Lat.ext0 y

    go_wp2_with fail
    refine (HM5.out _ _ _ (HY513.out.ext hxy)).mono ?_
    rintro e w' ⟨rfl, hx⟩
    have HRK := Lib.hid (rik_call (i := 4) y hs rfl hx trivial)
    clear hs
    go_wp2
    exact HRK.out
  rw [u4]
  go_simp
  with_reducible refine hK _ ?_
  clear hK K
  refine lx_next 5 (by rfl) (by decide) ?_
  dsimp only [List.take, List.drop]
  repeat (go_big_quiet_step (fail))
  refine wpQuiet_nil ?_
  refine lx_loud (by rfl) (by kernel_rfl) ?_ (fun K hK => ?_)
  · intro L w3 hL hd hcl hC hs
    obtain ⟨y, rfl⟩ := hC
    have hxy := Lat.ext0 y

    go_wp2_with fail
    refine (HC1.out _ _ _ (HY113.out.ext hxy)).mono ?_
    rintro e w' ⟨rfl, hx⟩
    have HRK := Lib.hid (rik_call (i := 10) y hs rfl hx trivial)
    clear hs
    go_wp2
    exact HRK.out
  rw [u10]
  go_simp
  with_reducible refine hK _ ?_
  clear hK K
  refine lx_next 5 (by rfl) (by decide) ?_
  dsimp only [List.take, List.drop]
  repeat (go_big_quiet_step (fail))
  refine wpQuiet_nil ?_
  refine lx_loud (by rfl) (by kernel_rfl) ?_ (fun K hK => ?_)
  · intro L w3 hL hd hcl hC hs
    obtain ⟨y, rfl⟩ := hC
    have hxy := Lat.ext0 y

    go_wp2_with fail
    refine (HC2.out _ _ _ (HY213.out.ext hxy)).mono ?_
    rintro e w' ⟨rfl, hx⟩
    have HRK := Lib.hid (rik_call (i := 16) y hs rfl hx trivial)
    clear hs
    go_wp2
    exact HRK.out
  rw [u16]
  go_simp
  with_reducible refine hK _ ?_
  clear hK K
  refine lx_next 4 (by rfl) (by decide) ?_
  dsimp only [List.take, List.drop]
  repeat (go_big_quiet_step (fail))
  refine wpQuiet_nil ?_
  refine lx_loud (by rfl) (by kernel_rfl) ?_ (fun K hK => ?_)
  · intro L w3 hL hd hcl hC hs
    obtain ⟨y, rfl⟩ := hC
    have hxy := Lat.ext0 y

    go_wp2_with fail
    refine (HCQ.out _ _ _ (HV13.out.wk1.ext hxy)).mono ?_
    rintro e w' ⟨rfl, hx⟩
    have HRK := Lib.hid (rik_call (i := 21) y hs rfl hx trivial)
    clear hs
    go_wp2
    exact HRK.out
  rw [u21]
  go_simp
  with_reducible refine hK _ ?_
  clear hK K
  refine lx_next 5 (by rfl) (by decide) ?_
  dsimp only [List.take, List.drop]
  repeat (go_big_quiet_step (fail))
  refine wpQuiet_nil ?_
  refine lx_loud (by rfl) (by kernel_rfl) ?_ (fun K hK => ?_)
  · intro L w3 hL hd hcl hC hs
    obtain ⟨y, rfl⟩ := hC
    have hxy := Lat.ext0 y

    go_wp2_with fail
    refine (HM1.out _ _ _ (HY113.out.ext hxy)).mono ?_
    rintro e w' ⟨rfl, hx⟩
    have HRK := Lib.hid (rik_call (i := 27) y hs rfl hx trivial)
    clear hs
    go_wp2
    exact HRK.out
  rw [u27]
  go_simp
  with_reducible refine hK _ ?_
  clear hK K
  refine lx_next 5 (by rfl) (by decide) ?_
  dsimp only [List.take, List.drop]
  repeat (go_big_quiet_step (fail))
  refine wpQuiet_nil ?_
  refine lx_loud (by rfl) (by kernel_rfl) ?_ (fun K hK => ?_)
  · intro L w3 hL hd hcl hC hs
    obtain ⟨y, rfl⟩ := hC
    have hxy := Lat.ext0 y

    go_wp2_with fail
    refine (HM2.out _ _ _ (HY213.out.ext hxy)).mono ?_
    rintro e w' ⟨rfl, hx⟩
    have HRK := Lib.hid (rik_call (i := 33) y hs rfl hx trivial)
    clear hs
    go_wp2
    exact HRK.out
  rw [u33]
  go_simp
  with_reducible refine hK _ ?_
  clear hK K
  refine lx_next 18 (by rfl) (by decide) ?_
  dsimp only [List.take, List.drop]
  repeat (go_big_quiet_step (fail))
  refine wpQuiet_nil ?_
  refine lx_loud (by rfl) (by kernel_rfl) ?_ (fun K hK => ?_)
  · intro L w3 hL hd hcl hC hs
    obtain ⟨y, rfl⟩ := hC
    have hxy := Lat.ext0 y

    go_wp2_with fail
    refine (HCQ.out _ _ _ (HV13.out.wk1.ext hxy)).mono ?_
    rintro e w' ⟨rfl, hx⟩
    have HRK := Lib.hid (rik_call (i := 52) y hs rfl hx trivial)
    clear hs
    go_wp2
    exact HRK.out
  rw [u52]
  go_simp
  with_reducible refine hK _ ?_
  clear hK K
  refine lx_next 4 (by rfl) (by decide) ?_
  dsimp only [List.take, List.drop]
  repeat (go_big_quiet_step (fail))
  refine wpQuiet_nil ?_
  refine lx_loud (by rfl) (by kernel_rfl) ?_ (fun K hK => ?_)
  · intro L w3 hL hd hcl hC hs
    obtain ⟨y, rfl⟩ := hC
    have hxy := Lat.ext0 y

    go_wp2_with fail
    refine (law_known _).mono ?_
    rintro e w' ⟨rfl, hx⟩
    have HRK := Lib.hid (rik_call (i := 57) y hs rfl hx trivial)
    clear hs
    go_wp2
    exact HRK.out
  rw [u57]
  go_simp
  with_reducible refine hK _ ?_
  clear hK K
  refine lx_next 2 (by rfl) (by decide) ?_
  dsimp only [List.take, List.drop]
  repeat (go_big_quiet_step (fail))
  refine wpQuiet_nil ?_
  refine lx_nil ?_
  intro y hs
  have hxy := Lat.ext0 y
  have HXE := Lib.hid (HX16.out.trans hxy)
  generalize y.world = w17 at *
  clear hs hxy m0 m1 m2 m3 m4 m5 yc0 yc1 hT hne u4 u10 u16 u21 u27 u33 u52 u57
  go_wp2
  go_ret
  exact ⟨rfl, HXE.out⟩
end Go.Proofs.Ytlkbbcfbnbnagaa
