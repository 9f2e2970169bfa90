/-
  The statement BoardLasts.
-/
import Derived.Test.YtlkbbcfbnbnagaaLbb
import Derived.Test.YtlkbbcfbnbnagaaLbf
import Derived.Test.YtlkbbcfbnbnagaaRey
import Derived.Deep.CutBlock
namespace Go.Proofs.Ytlkbbcfbnbnagaa
open Go.RowKit Go.BigFrame
attribute [local go_sem] Later.cell Later.frozen Lat.cell Lat.frozen
/-- Where the board and the week stand. -/
structure LaM (b : Brd) (a1 a2 a3 : Option Addr) (a4 a5 a6 k7 : Nat) (p : List Int) (vb vo : Nat) (i0 : Option Addr) (c0 : Nat) (W : World) : Prop where
  brd : BrdAt W ⟨a1, a2, a3, a4, a5, a6⟩ b
  blk : Blk W k7 #[.int .i64 b.eye, .int .i64 b.bull, .slice a1 b.rings.length a4, .slice a2 b.lines.length a5, .slice a3 b.nums.length a6, .int .i64 b.wire]
  cel0 : W.cell? ⟨vb, vo, none⟩ = some (.slice i0 p.length c0)
  wk0 : RdI S0 W (.slice i0 p.length c0) p
theorem LaM.ext {b : Brd} {a1 a2 a3 : Option Addr} {a4 a5 a6 k7 : Nat} {p : List Int} {vb vo : Nat} {i0 : Option Addr} {c0 : Nat} {W W' : World} (h : LaM b a1 a2 a3 a4 a5 a6 k7 p vb vo i0 c0 W) (hx : Ext W W') : LaM b a1 a2 a3 a4 a5 a6 k7 p vb vo i0 c0 W' :=
  ⟨h.brd.ext hx, h.blk.ext hx, hx.cell h.cel0, h.wk0.ext hx⟩
theorem calls_last (v : BrdV) (b : Brd) (worn week : List Int) (wa ka : Option Addr) (wc kc : Nat) (limit LA : Int) (w : World) (he : lastR b worn week limit = (LA, 0)) (h : BrdAt w v b) (hs : SmallB b) (hw : RdI S0 w (.slice wa worn.length wc) worn) (hk : RdI S0 w (.slice ka week.length kc) week) :
    Calls Try.prog 37 #[.agg (v.cells b), .slice wa worn.length wc, .slice ka week.length kc, .int .i64 limit] w fun e w' => e = .returned (.tuple #[.int .i64 LA, .int .i64 0]) ∧ Ext w w' := by
  refine (brd_Last v b worn week wa ka wc kc limit w h hs hw hk).mono ?_
  rw [he]
  exact fun e w' h => h
def NoL (LA : Int) (k : Nat) : Prop := ∀ j : Nat, j < k → LA ≠ (j : Int)
def EndL (LA lim : Int) (us : List Int) : Prop := 0 ≤ LA ∧ LA ≤ 60 → lim < maxL us
set_option maxRecDepth 100000 in
set_option maxHeartbeats 8000000 in
theorem law_BoardLasts (x : Mad) (ra la : Option Addr) (rc lc : Nat) (l : List Int) (ba : Option Addr) (bc : Nat) (lim : Int) (hf : x.fits) (h0 : 0 ≤ lim ∧ lim ≤ 65535) (w : World) (hr : CellsAt w .u8 ra x.rings) (hl : CellsAt w .u8 la x.lines) (hrl : x.rings.length ≤ maxLen) (hll : x.lines.length ≤ maxLen)
    (hbl : CellsAt w .u8 ba l) (hbi : ∀ y ∈ l, 0 ≤ y ∧ y ≤ 255) (hbm : l.length ≤ maxLen) :
    Calls Try.prog 9 #[.agg (x.cells ra la rc lc), .slice ba l.length bc, .int .u16 lim] w fun e w' => e = .returned (.bool true) ∧ Ext w w' := by
  have HM := Lib.hid (fun W (hx : Ext w W) => law_made x ra la rc lc W hf (hr.ext hx) (hl.ext hx) hrl hll)
  have HE := Lib.hid (made_ok x hf)
  have HSM := Lib.hid (made_small x)
  have hnn : 3 ≤ (madeB x).nums.length ∧ (madeB x).nums.length ≤ 20 := by
    have := lnM_spec x
    have e : (madeB x).nums.length = lnM x := numsM_len x _
    rw [e]; exact ⟨this.1, this.2.1⟩
  generalize madeB x = b at *
  unfold Mad.cells at *
  obtain ⟨n3, n20⟩ := hnn
  obtain ⟨lm0, lm1⟩ := h0
  have HW := Lib.hid (fun W (hx : Ext w W) => law_wear l ba bc b.nums.length 1 W (hbl.ext hx) hbi hbm n20 (by omega))
  have hn0 : 0 < b.nums.length ∧ b.nums.length ≤ 20 := by omega
  have HWX := Lib.hid (wornW_wor hbi b.nums.length)
  have HWP := Lib.hid (weekW_wor hbi b.nums.length 0)
  have e2 : weeksW l b.nums.length 1 = [weekW l b.nums.length 0] := rfl
  rw [e2] at HW
  generalize wornW l b.nums.length = xs at *
  generalize weekW l b.nums.length 0 = p at *
  have HSQ : Hid (∀ k, k ≤ 100 → Wor b.nums.length 100000000 (seqW p k xs)) := Lib.hid (fun k hk => (seqW_wor HE.out rfl hn0 HWX.out HWP.out k (by omega)).mono (by omega))
  have HBS : Hid (∀ k, k ≤ 100 → ∃ j m : Nat, j < b.nums.length ∧ bestR b (seqW p k xs) p = ((j : Int), (m : Int), 0) ∧ wearR b (seqW p k xs) p (j : Int) = (seqW p (k + 1) xs, 0)) := Lib.hid (fun k hk => by
    obtain ⟨j, hj, h1, -, h2, -⟩ := best_ok HE.out rfl hn0 (HSQ.out k hk) (HWP.out.mono (by omega : (1000 : Int) ≤ 1000000))
    have h3 := wear_ok HE.out rfl hn0 (HSQ.out k hk) (HWP.out.mono (by omega : (1000 : Int) ≤ 1000000)) hj
    have h4 := ((HSQ.out k hk).after HWP.out hj).max hn0.1
    refine ⟨j, (maxL (afterL (seqW p k xs) p j)).toNat, hj, ?_, ?_⟩
    · rw [h1, Int.toNat_of_nonneg h4.1]
    · rw [h3, seqW_succ, h2])
  obtain ⟨LA, hL⟩ : ∃ LA, lastW xs p lim = LA := ⟨_, rfl⟩
  obtain ⟨LB, hL2⟩ : ∃ LA, lastW xs p (lim + 100) = LA := ⟨_, rfl⟩
  have HL1 := Lib.hid (last_ok (limit := lim) HE.out rfl (HWX.out.mono (by omega : (1000 : Int) ≤ 100000000)) (HWP.out.mono (by omega : (1000 : Int) ≤ 1000000)) ⟨by omega, by omega⟩)
  have HL2 := Lib.hid (last_ok (limit := lim + 100) HE.out rfl (HWX.out.mono (by omega : (1000 : Int) ≤ 100000000)) (HWP.out.mono (by omega : (1000 : Int) ≤ 1000000)) ⟨by omega, by omega⟩)
  have HLG := Lib.hid (last_longer xs p lim)
  have HLZ := Lib.hid (last_zero HE.out rfl hn0 HWX.out HWP.out lim)
  have hls := lastW_spec xs p lim
  rw [hL] at HL1 HLG HLZ hls
  rw [hL2] at HL2 HLG
  have hLb : -1 ≤ LA ∧ LA ≤ 500 := by
    rcases hls with ⟨h, -⟩ | ⟨m, h1, h2, -⟩ <;> omega
  have HLL : Hid (∀ k, k ≤ 60 → NoL LA (k + 1) → maxL (seqW p k xs) ≤ lim) := Lib.hid (fun k hk hn => by
    rcases hls with ⟨-, h⟩ | ⟨m, h1, h2, h3, h4⟩
    · exact h k (by omega)
    · refine h4 k ?_
      rcases Nat.lt_or_ge k m with h | h
      · exact h
      · exact absurd h2 (hn m (by omega)))
  have HLE : Hid (∀ k : Nat, LA = (k : Int) → lim < maxL (seqW p k xs)) := Lib.hid (fun k hk => by
    rcases hls with ⟨h, -⟩ | ⟨m, h1, h2, h3, h4⟩
    · omega
    · obtain rfl : m = k := by omega
      exact h3)
  obtain ⟨hLb0, hLb1⟩ := hLb
  have HXL := Lib.hid HWX.out.len
  have HPL := Lib.hid HWP.out.len
  have HCP := Lib.hid (fun a c W h => calls_sum p a c W h HWP.out n20 (by omega))
  have HM0 := Lib.hid (fun k (hk : k ≤ 100) a c W h => calls_most (seqW p k xs) a c W h (HSQ.out k hk) hn0)
  have hsp : 0 ≤ sumL p ∧ sumL p ≤ 20000 := ⟨(sumL_pos p fun y hy => (HWP.out.pos y hy).1).1, by have := sumL_max p 1000 fun y hy => (HWP.out.pos y hy).2; have := HPL.out; omega⟩
  generalize sumL p = sp at *
  obtain ⟨sp0, sp1⟩ := hsp
  clear hf hr hl hrl hll hbl hbi hbm e2 hL hL2 hls
  go_enter Try.func9, Try.ntmps9
  go_wp2_with fail
  refine (HM.out _ (by first | exact (Ext.refl w).alloc _ | exact ((Ext.refl w).alloc _).alloc _)).mono ?_
  rintro e w1 ⟨⟨a1, a2, a3, a4, a5, a6⟩, rfl, hB, hN, -, hx1⟩
  have HN := Lib.hid hN
  unfold BrdV.cells
  go_upto_region 2 with fail
  obtain ⟨W, hW⟩ : ∃ y, y = w1.alloc (.cells #[.int .i64 b.eye, .int .i64 b.bull, .slice a1 b.rings.length a4, .slice a2 b.lines.length a5, .slice a3 b.nums.length a6, .int .i64 b.wire] 26) := ⟨_, rfl⟩
  rw [← hW]
  have hxW : Ext w1 W := by rw [hW]; exact (Ext.refl w1).alloc _
  have HB7 : Hid (Blk W w1.heap.size #[.int .i64 b.eye, .int .i64 b.bull, .slice a1 b.rings.length a4, .slice a2 b.lines.length a5, .slice a3 b.nums.length a6, .int .i64 b.wire]) := Lib.hid (by rw [hW]; exact Blk.new _ _ _)
  have HBW := Lib.hid (hB.ext hxW)
  have HXW : Hid (Ext w W) := Lib.hid (((Ext.refl w).alloc _).trans (hx1.trans hxW))
  generalize w1.heap.size = k7 at *
  clear hx1 hxW hW hB hN HM
  have m0 := HB7.out.cell 0 (v := .int .i64 b.eye) rfl
  have m1 := HB7.out.cell 1 (v := .int .i64 b.bull) rfl
  have m2 := HB7.out.cell 2 (v := .slice a1 b.rings.length a4) rfl
  have m3 := HB7.out.cell 3 (v := .slice a2 b.lines.length a5) rfl
  have m4 := HB7.out.cell 4 (v := .slice a3 b.nums.length a6) rfl
  have m5 := HB7.out.cell 5 (v := .int .i64 b.wire) rfl
  have ml := HB7.out.lt
  go_wp2_with fail
  refine (HW.out _ HXW.out).mono ?_
  rintro e w2 ⟨u0, v0, rfl, hru, hwv, hx2⟩
  obtain ⟨ua, uc, rfl⟩ := hru.opens
  obtain ⟨va, vc, rfl, hwv4⟩ := hwv
  obtain ⟨vb, vo, i0, c0, e, -, hc0, hr0⟩ := WksAt.get (wks := [p]) (a := va) (n := 1) (c := vc) ⟨_, _, rfl, hwv4⟩ 0 (by simp)
  subst e
  have HV2 : Hid (LaM b a1 a2 a3 a4 a5 a6 k7 p vb vo i0 c0 w2) := Lib.hid ⟨HBW.out.ext hx2, HB7.out.ext hx2, hc0, hr0⟩
  have HX2 := Lib.hid (HXW.out.trans hx2)
  have HU2 := Lib.hid hru
  clear hru hwv4 hc0 hr0 hx2 HW HXW HBW HB7 m0 m1 m2 m3 m4 m5 ml
  go_upto_region 3 with fail
  have m0 : ∀ y : Lat NoX w2, y.world.cell? ⟨k7, 0, none⟩ = some (.int .i64 b.eye) := fun y => (HV2.out.blk.ext (Lat.ext0 y)).cell 0 rfl
  have m1 : ∀ y : Lat NoX w2, y.world.cell? ⟨k7, 1, none⟩ = some (.int .i64 b.bull) := fun y => (HV2.out.blk.ext (Lat.ext0 y)).cell 1 rfl
  have m2 : ∀ y : Lat NoX w2, y.world.cell? ⟨k7, 2, none⟩ = some (.slice a1 b.rings.length a4) := fun y => (HV2.out.blk.ext (Lat.ext0 y)).cell 2 rfl
  have m3 : ∀ y : Lat NoX w2, y.world.cell? ⟨k7, 3, none⟩ = some (.slice a2 b.lines.length a5) := fun y => (HV2.out.blk.ext (Lat.ext0 y)).cell 3 rfl
  have m4 : ∀ y : Lat NoX w2, y.world.cell? ⟨k7, 4, none⟩ = some (.slice a3 b.nums.length a6) := fun y => (HV2.out.blk.ext (Lat.ext0 y)).cell 4 rfl
  have m5 : ∀ y : Lat NoX w2, y.world.cell? ⟨k7, 5, none⟩ = some (.int .i64 b.wire) := fun y => (HV2.out.blk.ext (Lat.ext0 y)).cell 5 rfl
  have yc0 : ∀ y : Lat NoX w2, y.world.cell? ⟨vb, vo, none⟩ = some (.slice i0 p.length c0) := fun y => (Lat.ext0 y).cell HV2.out.cel0
  refine wp_region_ext (by kernel_rfl) [.no, .boa b b, .no, .rdi xs, .no, .no, .no, .rdi p, .no, .no, .val (.tuple #[.int .i64 LA, .int .i64 0])] (by kernel_rfl) (Nat.le_of_ble_eq_true rfl) ?_
  intro T hT hne u hu
  obtain ⟨p1, p2, p3, p4, p5, p6, u1⟩ : BoaS b (u 1) := hu 1 rfl
  obtain ⟨fa, fc, u3⟩ : SlcS xs.length (u 3) := hu 3 rfl
  obtain ⟨ga, gc, u7⟩ : SlcS p.length (u 7) := hu 7 rfl
  have u10 : u 10 = .tuple #[.int .i64 LA, .int .i64 0] := hu 10 rfl
  clear hu
  refine lx_next 1 (by rfl) (by decide) ?_
  dsimp only [List.take, List.drop]
  repeat (go_big_quiet_step (fail))
  refine wpQuiet_nil ?_
  refine lx_loud (by rfl) (by kernel_rfl) ?_ (fun K hK => ?_)
  · intro L w3 hL hd hcl hC hs
    obtain ⟨y, rfl⟩ := hC
    have hxy := Lat.ext0 y

    go_wp2_with fail
    refine (law_own ⟨a1, a2, a3, a4, a5, a6⟩ b _ (HV2.out.brd.ext hxy) HN.out HSM.out).mono ?_
    rintro e w' ⟨v', rfl, hB', hN', -, hx⟩
    have HRK := Lib.hid (rik_call (i := 1) y hs ⟨_, _, _, _, _, _, rfl⟩ hx ⟨_, rfl, hB', hN'⟩)
    clear hs
    go_wp2
    exact HRK.out
  rw [u1]
  go_simp
  with_reducible refine hK _ ?_
  clear hK K
  refine lx_next 1 (by rfl) (by decide) ?_
  dsimp only [List.take, List.drop]
  repeat (go_big_quiet_step (fail))
  refine wpQuiet_nil ?_
  refine lx_loud (by rfl) (by kernel_rfl) ?_ (fun K hK => ?_)
  · intro L w3 hL hd hcl hC hs
    obtain ⟨y, rfl⟩ := hC
    have hxy := Lat.ext0 y

    go_wp2_with fail
    refine (calls_ints xs ua uc _ (HU2.out.ext hxy) (by have := HXL.out; omega)).mono ?_
    rintro e w' ⟨xa, xc, rfl, hri, hx⟩
    have HRK := Lib.hid (rik_call (i := 3) y hs ⟨xa, xc, rfl⟩ hx hri)
    clear hs
    go_wp2
    exact HRK.out
  rw [u3]
  go_simp
  with_reducible refine hK _ ?_
  clear hK K
  refine lx_next 3 (by rfl) (by decide) ?_
  dsimp only [List.take, List.drop]
  repeat (go_big_quiet_step (fail))
  refine wpQuiet_nil ?_
  refine lx_loud (by rfl) (by kernel_rfl) ?_ (fun K hK => ?_)
  · intro L w3 hL hd hcl hC hs
    obtain ⟨y, rfl⟩ := hC
    have hxy := Lat.ext0 y

    go_wp2_with fail
    refine (calls_ints p i0 c0 _ (HV2.out.wk0.ext hxy) (by have := HPL.out; omega)).mono ?_
    rintro e w' ⟨xa, xc, rfl, hri, hx⟩
    have HRK := Lib.hid (rik_call (i := 7) y hs ⟨xa, xc, rfl⟩ hx hri)
    clear hs
    go_wp2
    exact HRK.out
  rw [u7]
  go_simp
  with_reducible refine hK _ ?_
  clear hK K
  refine lx_next 2 (by rfl) (by decide) ?_
  dsimp only [List.take, List.drop]
  repeat (go_big_quiet_step (fail))
  refine wpQuiet_nil ?_
  refine lx_loud (by rfl) (by kernel_rfl) ?_ (fun K hK => ?_)
  · intro L w3 hL hd hcl hC hs
    obtain ⟨y, rfl⟩ := hC
    have hxy := Lat.ext0 y
    have h1 := hs 1 rfl (hd 1 (by kernel_rfl))
    rw [u1] at h1
    obtain ⟨hB1, hN1⟩ := BoaT.at h1
    have h3 := hs 3 rfl (hd 3 (by kernel_rfl))
    rw [u3] at h3
    have h7 := hs 7 rfl (hd 7 (by kernel_rfl))
    rw [u7] at h7
    go_wp2_with fail
    refine (calls_last ⟨p1, p2, p3, p4, p5, p6⟩ b xs p fa ga fc gc lim LA _ HL1.out hB1 HSM.out h3 h7).mono ?_
    rintro e w' ⟨rfl, hx⟩
    have HRK := Lib.hid (rik_call (i := 10) y hs rfl hx trivial)
    clear hs
    go_wp2
    exact HRK.out
  rw [u10]
  go_simp
  with_reducible refine hK _ ?_
  clear hK K
  refine lx_next 5 (by rfl) (by decide) ?_
  dsimp only [List.take, List.drop]
  repeat (go_big_quiet_step (fail))
  refine wpQuiet_nil ?_
  refine lx_nil ?_
  intro y hs
  have hxy := Lat.ext0 y
  have HV3 := Lib.hid (HV2.out.ext hxy)
  have HU3 := Lib.hid (HU2.out.ext hxy)
  have HX3 := Lib.hid (HX2.out.trans hxy)
  generalize y.world = w3 at *
  clear hs hxy m0 m1 m2 m3 m4 m5 yc0 hT hne u1 u3 u7 u10 HV2 HU2 HX2
  go_upto_region 4 with fail
  have m0 : ∀ y : Lat NoX w3, y.world.cell? ⟨k7, 0, none⟩ = some (.int .i64 b.eye) := fun y => (HV3.out.blk.ext (Lat.ext0 y)).cell 0 rfl
  have m1 : ∀ y : Lat NoX w3, y.world.cell? ⟨k7, 1, none⟩ = some (.int .i64 b.bull) := fun y => (HV3.out.blk.ext (Lat.ext0 y)).cell 1 rfl
  have m2 : ∀ y : Lat NoX w3, y.world.cell? ⟨k7, 2, none⟩ = some (.slice a1 b.rings.length a4) := fun y => (HV3.out.blk.ext (Lat.ext0 y)).cell 2 rfl
  have m3 : ∀ y : Lat NoX w3, y.world.cell? ⟨k7, 3, none⟩ = some (.slice a2 b.lines.length a5) := fun y => (HV3.out.blk.ext (Lat.ext0 y)).cell 3 rfl
  have m4 : ∀ y : Lat NoX w3, y.world.cell? ⟨k7, 4, none⟩ = some (.slice a3 b.nums.length a6) := fun y => (HV3.out.blk.ext (Lat.ext0 y)).cell 4 rfl
  have m5 : ∀ y : Lat NoX w3, y.world.cell? ⟨k7, 5, none⟩ = some (.int .i64 b.wire) := fun y => (HV3.out.blk.ext (Lat.ext0 y)).cell 5 rfl
  have yc0 : ∀ y : Lat NoX w3, y.world.cell? ⟨vb, vo, none⟩ = some (.slice i0 p.length c0) := fun y => (Lat.ext0 y).cell HV3.out.cel0
  refine wp_region_ext (by kernel_rfl) [.no, .boa b b, .no, .rdi xs, .no, .no, .no, .rdi p, .no, .no, .no, .val (.tuple #[.int .i64 LB, .int .i64 0])] (by kernel_rfl) (Nat.le_of_ble_eq_true rfl) ?_
  intro T hT hne u hu
  obtain ⟨p1, p2, p3, p4, p5, p6, u1⟩ : BoaS b (u 1) := hu 1 rfl
  obtain ⟨fa, fc, u3⟩ : SlcS xs.length (u 3) := hu 3 rfl
  obtain ⟨ga, gc, u7⟩ : SlcS p.length (u 7) := hu 7 rfl
  have u11 : u 11 = .tuple #[.int .i64 LB, .int .i64 0] := hu 11 rfl
  clear hu
  refine lx_next 1 (by rfl) (by decide) ?_
  dsimp only [List.take, List.drop]
  repeat (go_big_quiet_step (fail))
  refine wpQuiet_nil ?_
  refine lx_loud (by rfl) (by kernel_rfl) ?_ (fun K hK => ?_)
  · intro L w3 hL hd hcl hC hs
    obtain ⟨y, rfl⟩ := hC
    have hxy := Lat.ext0 y

    go_wp2_with fail
    refine (law_own ⟨a1, a2, a3, a4, a5, a6⟩ b _ (HV3.out.brd.ext hxy) HN.out HSM.out).mono ?_
    rintro e w' ⟨v', rfl, hB', hN', -, hx⟩
    have HRK := Lib.hid (rik_call (i := 1) y hs ⟨_, _, _, _, _, _, rfl⟩ hx ⟨_, rfl, hB', hN'⟩)
    clear hs
    go_wp2
    exact HRK.out
  rw [u1]
  go_simp
  with_reducible refine hK _ ?_
  clear hK K
  refine lx_next 1 (by rfl) (by decide) ?_
  dsimp only [List.take, List.drop]
  repeat (go_big_quiet_step (fail))
  refine wpQuiet_nil ?_
  refine lx_loud (by rfl) (by kernel_rfl) ?_ (fun K hK => ?_)
  · intro L w3 hL hd hcl hC hs
    obtain ⟨y, rfl⟩ := hC
    have hxy := Lat.ext0 y

    go_wp2_with fail
    refine (calls_ints xs ua uc _ (HU3.out.ext hxy) (by have := HXL.out; omega)).mono ?_
    rintro e w' ⟨xa, xc, rfl, hri, hx⟩
    have HRK := Lib.hid (rik_call (i := 3) y hs ⟨xa, xc, rfl⟩ hx hri)
    clear hs
    go_wp2
    exact HRK.out
  rw [u3]
  go_simp
  with_reducible refine hK _ ?_
  clear hK K
  refine lx_next 3 (by rfl) (by decide) ?_
  dsimp only [List.take, List.drop]
  repeat (go_big_quiet_step (fail))
  refine wpQuiet_nil ?_
  refine lx_loud (by rfl) (by kernel_rfl) ?_ (fun K hK => ?_)
  · intro L w3 hL hd hcl hC hs
    obtain ⟨y, rfl⟩ := hC
    have hxy := Lat.ext0 y

    go_wp2_with fail
    refine (calls_ints p i0 c0 _ (HV3.out.wk0.ext hxy) (by have := HPL.out; omega)).mono ?_
    rintro e w' ⟨xa, xc, rfl, hri, hx⟩
    have HRK := Lib.hid (rik_call (i := 7) y hs ⟨xa, xc, rfl⟩ hx hri)
    clear hs
    go_wp2
    exact HRK.out
  rw [u7]
  go_simp
  with_reducible refine hK _ ?_
  clear hK K
  refine lx_next 3 (by rfl) (by decide) ?_
  dsimp only [List.take, List.drop]
  repeat (go_big_quiet_step (fail))
  refine wpQuiet_nil ?_
  refine lx_loud (by rfl) (by kernel_rfl) ?_ (fun K hK => ?_)
  · intro L w3 hL hd hcl hC hs
    obtain ⟨y, rfl⟩ := hC
    have hxy := Lat.ext0 y
    have h1 := hs 1 rfl (hd 1 (by kernel_rfl))
    rw [u1] at h1
    obtain ⟨hB1, hN1⟩ := BoaT.at h1
    have h3 := hs 3 rfl (hd 3 (by kernel_rfl))
    rw [u3] at h3
    have h7 := hs 7 rfl (hd 7 (by kernel_rfl))
    rw [u7] at h7
    go_wp2_with fail
    refine (calls_last ⟨p1, p2, p3, p4, p5, p6⟩ b xs p fa ga fc gc (lim + 100) LB _ HL2.out hB1 HSM.out h3 h7).mono ?_
    rintro e w' ⟨rfl, hx⟩
    have HRK := Lib.hid (rik_call (i := 11) y hs rfl hx trivial)
    clear hs
    go_wp2
    exact HRK.out
  rw [u11]
  go_simp
  with_reducible refine hK _ ?_
  clear hK K
  refine lx_next 5 (by rfl) (by decide) ?_
  dsimp only [List.take, List.drop]
  repeat (go_big_quiet_step (fail))
  refine wpQuiet_nil ?_
  refine lx_nil ?_
  intro y hs
  have hxy := Lat.ext0 y
  have HV4 := Lib.hid (HV3.out.ext hxy)
  have HU4 := Lib.hid (HU3.out.ext hxy)
  have HX4 := Lib.hid (HX3.out.trans hxy)
  generalize y.world = w4 at *
  clear hs hxy m0 m1 m2 m3 m4 m5 yc0 hT hne u1 u3 u7 u11 HV3 HU3 HX3
  go_upto_region 5 with fail
  go_cut [84] from 58 to 84 (fun t wx => t = .bool false ∧ wx = w4)
  case first =>
    cases hd : (LB != -1)
    case false =>
      go_wp2
      go_meet
      exact ⟨congrArg Value.bool (by simp; omega), rfl⟩
    case true =>
      obtain ⟨e1, e2⟩ := HLG.out (by simpa using hd)
      have hd2 : (LA == -1) = false := by simpa using e1
      have hd3 : decide (LB < LA) = false := by simp; omega
      go_wp2
      go_meet
      exact ⟨congrArg Value.bool (by simp; omega), rfl⟩
  case rest =>
  obtain ⟨rfl, rfl⟩ := hcut
  rename_i K0 b0
  refine b0 _ _ ?_
  go_upto_block 0 with fail
  go_cut [8, 14] from 85 to 136 (fun v _ wx => ∃ us sa sc, v = .slice sa us.length sc ∧ RdI S0 wx (.slice sa us.length sc) us ∧ Wor b.nums.length 100000000 us ∧ EndL LA lim us ∧ LaM b a1 a2 a3 a4 a5 a6 k7 p vb vo i0 c0 wx ∧ Ext w wx)
  case first =>
    go_wp2
    go_loopw [8, 14] (fun v i wr => ∃ k : Nat, k ≤ 61 ∧ i = .int .i64 k ∧ NoL LA k ∧ (∃ sa sc, v = .slice sa (seqW p k xs).length sc ∧ RdI S0 wr (.slice sa (seqW p k xs).length sc) (seqW p k xs)) ∧ LaM b a1 a2 a3 a4 a5 a6 k7 p vb vo i0 c0 wr ∧ Ext w wr) (fun _ i _ => 61 - (intOf i).toNat)
    case atStart => exact ⟨0, by omega, rfl, fun j h => absurd h (Nat.not_lt_zero j), ⟨ua, uc, rfl, HU4.out⟩, HV4.out, HX4.out⟩
    case round =>
      obtain ⟨k, hk, rfl, hnl, ⟨sa, sc, rfl, hu⟩, hv, hx⟩ := hrel
      have HNO := Lib.hid hnl
      have HU := Lib.hid hu
      have HV := Lib.hid hv
      have HX := Lib.hid hx
      have HSK := Lib.hid (HSQ.out k (by omega))
      have HMK := Lib.hid (HM0.out k (by omega))
      clear hnl hu hv hx
      by_cases hk6 : k ≤ 60
      · cases hkL : ((k : Int) != LA)
        case false =>
          have hLk : LA = (k : Int) := (show (k : Int) = LA by simpa using hkL).symm
          have HEN : Hid (EndL LA lim (seqW p k xs)) := Lib.hid (fun _ => HLE.out k hLk)
          clear hLk
          generalize seqW p k xs = us at *
          go_wp2
          go_meet
          exact ⟨us, sa, sc, rfl, HU.out, HSK.out, HEN.out, HV.out, HX.out⟩
        case true =>
          have hNk : NoL LA (k + 1) := by
            intro j hj
            rcases Nat.lt_or_ge j k with h | h
            · exact HNO.out j h
            · obtain rfl : j = k := by omega
              have : ¬ ((j : Int) = LA) := by simpa using hkL
              omega
          have hmx : ¬ (lim < maxL (seqW p k xs)) := by have := HLL.out k hk6 hNk; omega
          have HNK := Lib.hid hNk
          obtain ⟨j, m, hj, hbst, hwr⟩ := HBS.out k (by omega)
          have HBST := Lib.hid hbst
          have HWR := Lib.hid hwr
          have HSN := Lib.hid (HSQ.out (k + 1) (by omega))
          have HLN := Lib.hid (show (((seqW p (k + 1) xs).length : Int) != ((seqW p k xs).length : Int)) = false by rw [HSN.out.len, HSK.out.len]; simp)
          obtain ⟨vs, hvs⟩ : ∃ vs, seqW p (k + 1) xs = vs := ⟨_, rfl⟩
          have HVS := Lib.hid hvs
          rw [hvs] at HLN HWR HSN
          clear hvs
          generalize seqW p k xs = us at *
          generalize maxL us = mu at *
          clear hNk hbst hwr
          go_wp2_with fail
          refine (HMK.out _ _ _ HU.out).mono ?_
          rintro e w5 ⟨rfl, hx5⟩
          have HU5 := Lib.hid (HU.out.ext hx5)
          have HV5 := Lib.hid (HV.out.ext hx5)
          have HX5 := Lib.hid (HX.out.trans hx5)
          clear hx5
          go_upto_region 12 with fail
          have m0 : ∀ y : Lat NoX w5, y.world.cell? ⟨k7, 0, none⟩ = some (.int .i64 b.eye) := fun y => (HV5.out.blk.ext (Lat.ext0 y)).cell 0 rfl
          have m1 : ∀ y : Lat NoX w5, y.world.cell? ⟨k7, 1, none⟩ = some (.int .i64 b.bull) := fun y => (HV5.out.blk.ext (Lat.ext0 y)).cell 1 rfl
          have m2 : ∀ y : Lat NoX w5, y.world.cell? ⟨k7, 2, none⟩ = some (.slice a1 b.rings.length a4) := fun y => (HV5.out.blk.ext (Lat.ext0 y)).cell 2 rfl
          have m3 : ∀ y : Lat NoX w5, y.world.cell? ⟨k7, 3, none⟩ = some (.slice a2 b.lines.length a5) := fun y => (HV5.out.blk.ext (Lat.ext0 y)).cell 3 rfl
          have m4 : ∀ y : Lat NoX w5, y.world.cell? ⟨k7, 4, none⟩ = some (.slice a3 b.nums.length a6) := fun y => (HV5.out.blk.ext (Lat.ext0 y)).cell 4 rfl
          have m5 : ∀ y : Lat NoX w5, y.world.cell? ⟨k7, 5, none⟩ = some (.int .i64 b.wire) := fun y => (HV5.out.blk.ext (Lat.ext0 y)).cell 5 rfl
          have yc0 : ∀ y : Lat NoX w5, y.world.cell? ⟨vb, vo, none⟩ = some (.slice i0 p.length c0) := fun y => (Lat.ext0 y).cell HV5.out.cel0
          refine wp_region_ext (by kernel_rfl) [.no, .boa b b, .no, .rdi us, .no, .no, .no, .rdi p, .val (.tuple #[.int .i64 (j : Int), .int .i64 (m : Int), .int .i64 0])] (by kernel_rfl) (Nat.le_of_ble_eq_true rfl) ?_
          intro T hT hne u hu
          obtain ⟨p1, p2, p3, p4, p5, p6, u1⟩ : BoaS b (u 1) := hu 1 rfl
          obtain ⟨fa, fc, u3⟩ : SlcS us.length (u 3) := hu 3 rfl
          obtain ⟨ga, gc, u7⟩ : SlcS p.length (u 7) := hu 7 rfl
          have u8 : u 8 = .tuple #[.int .i64 (j : Int), .int .i64 (m : Int), .int .i64 0] := hu 8 rfl
          clear hu
          refine lx_next 1 (by rfl) (by decide) ?_
          dsimp only [List.take, List.drop]
          repeat (go_big_quiet_step (fail))
          refine wpQuiet_nil ?_
          refine lx_loud (by rfl) (by kernel_rfl) ?_ (fun K hK => ?_)
          · intro L w3 hL hd hcl hC hs
            obtain ⟨y, rfl⟩ := hC
            have hxy := Lat.ext0 y

            go_wp2_with fail
            refine (law_own ⟨a1, a2, a3, a4, a5, a6⟩ b _ (HV5.out.brd.ext hxy) HN.out HSM.out).mono ?_
            rintro e w' ⟨v', rfl, hB', hN', -, hx⟩
            have HRK := Lib.hid (rik_call (i := 1) y hs ⟨_, _, _, _, _, _, rfl⟩ hx ⟨_, rfl, hB', hN'⟩)
            clear hs
            go_wp2
            exact HRK.out
          rw [u1]
          go_simp
          with_reducible refine hK _ ?_
          clear hK K
          refine lx_next 1 (by rfl) (by decide) ?_
          dsimp only [List.take, List.drop]
          repeat (go_big_quiet_step (fail))
          refine wpQuiet_nil ?_
          refine lx_loud (by rfl) (by kernel_rfl) ?_ (fun K hK => ?_)
          · intro L w3 hL hd hcl hC hs
            obtain ⟨y, rfl⟩ := hC
            have hxy := Lat.ext0 y

            go_wp2_with fail
            refine (calls_ints us sa sc _ (HU5.out.ext hxy) (by have := HSK.out.len; omega)).mono ?_
            rintro e w' ⟨xa, xc, rfl, hri, hx⟩
            have HRK := Lib.hid (rik_call (i := 3) y hs ⟨xa, xc, rfl⟩ hx hri)
            clear hs
            go_wp2
            exact HRK.out
          rw [u3]
          go_simp
          with_reducible refine hK _ ?_
          clear hK K
          refine lx_next 3 (by rfl) (by decide) ?_
          dsimp only [List.take, List.drop]
          repeat (go_big_quiet_step (fail))
          refine wpQuiet_nil ?_
          refine lx_loud (by rfl) (by kernel_rfl) ?_ (fun K hK => ?_)
          · intro L w3 hL hd hcl hC hs
            obtain ⟨y, rfl⟩ := hC
            have hxy := Lat.ext0 y

            go_wp2_with fail
            refine (calls_ints p i0 c0 _ (HV5.out.wk0.ext hxy) (by have := HPL.out; omega)).mono ?_
            rintro e w' ⟨xa, xc, rfl, hri, hx⟩
            have HRK := Lib.hid (rik_call (i := 7) y hs ⟨xa, xc, rfl⟩ hx hri)
            clear hs
            go_wp2
            exact HRK.out
          rw [u7]
          go_simp
          with_reducible refine hK _ ?_
          clear hK K
          refine lx_loud (by rfl) (by kernel_rfl) ?_ (fun K hK => ?_)
          · intro L w3 hL hd hcl hC hs
            obtain ⟨y, rfl⟩ := hC
            have hxy := Lat.ext0 y
            have h1 := hs 1 rfl (hd 1 (by kernel_rfl))
            rw [u1] at h1
            obtain ⟨hB1, hN1⟩ := BoaT.at h1
            have h3 := hs 3 rfl (hd 3 (by kernel_rfl))
            rw [u3] at h3
            have h7 := hs 7 rfl (hd 7 (by kernel_rfl))
            rw [u7] at h7
            go_wp2_with fail
            refine (calls_best ⟨p1, p2, p3, p4, p5, p6⟩ b us p fa ga fc gc (j : Int) (m : Int) _ HBST.out hB1 HSM.out h3 h7).mono ?_
            rintro e w' ⟨rfl, hx⟩
            have HRK := Lib.hid (rik_call (i := 8) y hs rfl hx trivial)
            clear hs
            go_wp2
            exact HRK.out
          rw [u8]
          go_simp
          with_reducible refine hK _ ?_
          clear hK K
          refine lx_next 7 (by rfl) (by decide) ?_
          dsimp only [List.take, List.drop]
          repeat (go_big_quiet_step (fail))
          refine wpQuiet_nil ?_
          refine lx_nil ?_
          intro y hs
          have hxy := Lat.ext0 y
          have HV6 := Lib.hid (HV5.out.ext hxy)
          have HU6 := Lib.hid (HU5.out.ext hxy)
          have HX6 := Lib.hid (HX5.out.trans hxy)
          generalize y.world = w6 at *
          clear hs hxy m0 m1 m2 m3 m4 m5 yc0 hT hne u1 u3 u7 u8 HV5 HU5 HX5
          go_upto_region 15 with fail
          have m0 : ∀ y : Lat NoX w6, y.world.cell? ⟨k7, 0, none⟩ = some (.int .i64 b.eye) := fun y => (HV6.out.blk.ext (Lat.ext0 y)).cell 0 rfl
          have m1 : ∀ y : Lat NoX w6, y.world.cell? ⟨k7, 1, none⟩ = some (.int .i64 b.bull) := fun y => (HV6.out.blk.ext (Lat.ext0 y)).cell 1 rfl
          have m2 : ∀ y : Lat NoX w6, y.world.cell? ⟨k7, 2, none⟩ = some (.slice a1 b.rings.length a4) := fun y => (HV6.out.blk.ext (Lat.ext0 y)).cell 2 rfl
          have m3 : ∀ y : Lat NoX w6, y.world.cell? ⟨k7, 3, none⟩ = some (.slice a2 b.lines.length a5) := fun y => (HV6.out.blk.ext (Lat.ext0 y)).cell 3 rfl
          have m4 : ∀ y : Lat NoX w6, y.world.cell? ⟨k7, 4, none⟩ = some (.slice a3 b.nums.length a6) := fun y => (HV6.out.blk.ext (Lat.ext0 y)).cell 4 rfl
          have m5 : ∀ y : Lat NoX w6, y.world.cell? ⟨k7, 5, none⟩ = some (.int .i64 b.wire) := fun y => (HV6.out.blk.ext (Lat.ext0 y)).cell 5 rfl
          have yc0 : ∀ y : Lat NoX w6, y.world.cell? ⟨vb, vo, none⟩ = some (.slice i0 p.length c0) := fun y => (Lat.ext0 y).cell HV6.out.cel0
          refine wp_region_ext (by kernel_rfl) [.no, .boa b b, .no, .rdi us, .no, .no, .no, .rdi p, .no, .wrs vs] (by kernel_rfl) (Nat.le_of_ble_eq_true rfl) ?_
          intro T hT hne u hu
          obtain ⟨p1, p2, p3, p4, p5, p6, u1⟩ : BoaS b (u 1) := hu 1 rfl
          obtain ⟨fa, fc, u3⟩ : SlcS us.length (u 3) := hu 3 rfl
          obtain ⟨ga, gc, u7⟩ : SlcS p.length (u 7) := hu 7 rfl
          obtain ⟨da, dc, u9⟩ : Tup1S vs.length (u 9) := hu 9 rfl
          clear hu
          refine lx_next 1 (by rfl) (by decide) ?_
          dsimp only [List.take, List.drop]
          repeat (go_big_quiet_step (fail))
          refine wpQuiet_nil ?_
          refine lx_loud (by rfl) (by kernel_rfl) ?_ (fun K hK => ?_)
          · intro L w3 hL hd hcl hC hs
            obtain ⟨y, rfl⟩ := hC
            have hxy := Lat.ext0 y

            go_wp2_with fail
            refine (law_own ⟨a1, a2, a3, a4, a5, a6⟩ b _ (HV6.out.brd.ext hxy) HN.out HSM.out).mono ?_
            rintro e w' ⟨v', rfl, hB', hN', -, hx⟩
            have HRK := Lib.hid (rik_call (i := 1) y hs ⟨_, _, _, _, _, _, rfl⟩ hx ⟨_, rfl, hB', hN'⟩)
            clear hs
            go_wp2
            exact HRK.out
          rw [u1]
          go_simp
          with_reducible refine hK _ ?_
          clear hK K
          refine lx_next 1 (by rfl) (by decide) ?_
          dsimp only [List.take, List.drop]
          repeat (go_big_quiet_step (fail))
          refine wpQuiet_nil ?_
          refine lx_loud (by rfl) (by kernel_rfl) ?_ (fun K hK => ?_)
          · intro L w3 hL hd hcl hC hs
            obtain ⟨y, rfl⟩ := hC
            have hxy := Lat.ext0 y

            go_wp2_with fail
            refine (calls_ints us sa sc _ (HU6.out.ext hxy) (by have := HSK.out.len; omega)).mono ?_
            rintro e w' ⟨xa, xc, rfl, hri, hx⟩
            have HRK := Lib.hid (rik_call (i := 3) y hs ⟨xa, xc, rfl⟩ hx hri)
            clear hs
            go_wp2
            exact HRK.out
          rw [u3]
          go_simp
          with_reducible refine hK _ ?_
          clear hK K
          refine lx_next 3 (by rfl) (by decide) ?_
          dsimp only [List.take, List.drop]
          repeat (go_big_quiet_step (fail))
          refine wpQuiet_nil ?_
          refine lx_loud (by rfl) (by kernel_rfl) ?_ (fun K hK => ?_)
          · intro L w3 hL hd hcl hC hs
            obtain ⟨y, rfl⟩ := hC
            have hxy := Lat.ext0 y

            go_wp2_with fail
            refine (calls_ints p i0 c0 _ (HV6.out.wk0.ext hxy) (by have := HPL.out; omega)).mono ?_
            rintro e w' ⟨xa, xc, rfl, hri, hx⟩
            have HRK := Lib.hid (rik_call (i := 7) y hs ⟨xa, xc, rfl⟩ hx hri)
            clear hs
            go_wp2
            exact HRK.out
          rw [u7]
          go_simp
          with_reducible refine hK _ ?_
          clear hK K
          refine lx_next 1 (by rfl) (by decide) ?_
          dsimp only [List.take, List.drop]
          repeat (go_big_quiet_step (fail))
          refine wpQuiet_nil ?_
          refine lx_loud (by rfl) (by kernel_rfl) ?_ (fun K hK => ?_)
          · intro L w3 hL hd hcl hC hs
            obtain ⟨y, rfl⟩ := hC
            have hxy := Lat.ext0 y
            have h1 := hs 1 rfl (hd 1 (by kernel_rfl))
            rw [u1] at h1
            obtain ⟨hB1, hN1⟩ := BoaT.at h1
            have h3 := hs 3 rfl (hd 3 (by kernel_rfl))
            rw [u3] at h3
            have h7 := hs 7 rfl (hd 7 (by kernel_rfl))
            rw [u7] at h7
            go_wp2_with fail
            refine (calls_wear ⟨p1, p2, p3, p4, p5, p6⟩ b us p vs fa ga fc gc j _ HWR.out hB1 HSM.out h3 h7).mono ?_
            rintro e w' ⟨xa, xc, rfl, hri, hx⟩
            have HRK := Lib.hid (rik_call (i := 9) y hs ⟨xa, xc, rfl⟩ hx ⟨xa, xc, rfl, hri⟩)
            clear hs
            go_wp2
            exact HRK.out
          rw [u9]
          go_simp
          with_reducible refine hK _ ?_
          clear hK K
          refine lx_next 5 (by rfl) (by decide) ?_
          dsimp only [List.take, List.drop]
          repeat (go_big_quiet_step (fail))
          refine wpQuiet_nil ?_
          refine lx_nil ?_
          intro y hs
          have hxy := Lat.ext0 y
          have h9 := hs 9 rfl rfl
          rw [u9] at h9
          have HY := Lib.hid h9.at
          have HV7 := Lib.hid (HV6.out.ext hxy)
          have HX7 := Lib.hid (HX6.out.trans hxy)
          generalize y.world = w7 at *
          clear hs hxy m0 m1 m2 m3 m4 m5 yc0 hT hne u1 u3 u7 u9 h9 HV6 HU6 HX6
          have hln := HLN.out
          go_wp2
          go_roundw
          case rel => exact ⟨k + 1, by omega, by go_num, HNK.out, ⟨da, dc, by rw [HVS.out], by rw [HVS.out]; exact HY.out⟩, HV7.out, HX7.out⟩
          case measure => simp [intOf]; omega
      · have HEN : Hid (EndL LA lim (seqW p k xs)) := Lib.hid (fun h => by
          obtain ⟨j, rfl⟩ : ∃ j : Nat, LA = (j : Int) := ⟨LA.toNat, by omega⟩
          exact absurd rfl (HNO.out j (by omega)))
        generalize seqW p k xs = us at *
        go_wp2
        go_meet
        exact ⟨us, sa, sc, rfl, HU.out, HSK.out, HEN.out, HV.out, HX.out⟩
  case rest =>
  obtain ⟨us, sa, sc, rfl, hu, hwu, hen, hv, hx⟩ := hcut
  have HU := Lib.hid hu
  have HWU := Lib.hid hwu
  have HEN := Lib.hid hen
  have HV := Lib.hid hv
  have HX := Lib.hid hx
  clear hu hwu hen hv hx
  rename_i K1 b1
  refine b1 _ _ ?_
  go_upto_region 19 with fail
  go_cut [149] from 137 to 149 (fun t wx => t = .bool false ∧ Ext wc wx)
  case first =>
    cases hd1 : decide (0 ≤ LA)
    case false =>
      go_wp2
      go_meet
      exact ⟨rfl, Ext.refl _⟩
    case true =>
    cases hd2 : decide (LA ≤ 60)
    case false =>
      go_wp2
      go_meet
      exact ⟨rfl, Ext.refl _⟩
    case true =>
    have hd3 : decide (maxL us ≤ lim) = false := by
      have := HEN.out ⟨of_decide_eq_true hd1, of_decide_eq_true hd2⟩
      simp; omega
    go_wp2_with fail
    refine (calls_most us sa sc _ HU.out HWU.out hn0).mono ?_
    rintro e w5 ⟨rfl, hx5⟩
    have HX5 := Lib.hid hx5
    clear hx5
    generalize maxL us = mu at *
    go_wp2
    go_meet
    exact ⟨rfl, HX5.out⟩
  case rest =>
  obtain ⟨rfl, hxc⟩ := hcut
  have HV8 := Lib.hid (HV.out.ext hxc)
  have HX8 := Lib.hid (HX.out.trans hxc)
  clear hxc
  rename_i K2 b2
  refine b2 _ _ ?_
  have hq0 := HV8.out.cel0
  have hql := lt_of_cell hq0
  simp only at hql
  go_wp2_with fail
  refine (HCP.out _ _ _ HV8.out.wk0).mono ?_
  rintro e w9 ⟨rfl, hx9⟩
  have HX9 := Lib.hid (HX8.out.trans hx9)
  clear hx9 hq0 hql
  cases hd1 : decide (0 < sp)
  case true =>
    go_wp2_with fail
    refine (law_known _).mono ?_
    rintro e w24 ⟨rfl, hx24⟩
    have HXE := Lib.hid (HX9.out.trans hx24)
    clear hx24
    go_wp2
    go_ret
    exact ⟨rfl, HXE.out⟩
  case false =>
  cases hd2 : (LA == 0)
  case true =>
    go_wp2_with fail
    refine (law_known _).mono ?_
    rintro e w24 ⟨rfl, hx24⟩
    have HXE := Lib.hid (HX9.out.trans hx24)
    clear hx24
    go_wp2
    go_ret
    exact ⟨rfl, HXE.out⟩
  case false =>
  have hd3 : (LA == -1) = true := by
    rcases HLZ.out with h | h | h
    · rw [decide_eq_true h] at hd1; cases hd1
    · rw [h] at hd2; cases hd2
    · rw [h]; rfl
  go_wp2_with fail
  refine (law_known _).mono ?_
  rintro e w24 ⟨rfl, hx24⟩
  have HXE := Lib.hid (HX9.out.trans hx24)
  clear hx24
  go_wp2
  go_ret
  exact ⟨rfl, HXE.out⟩
end Go.Proofs.Ytlkbbcfbnbnagaa
