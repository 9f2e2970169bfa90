/-
  The statement BoardOne.
-/
import Derived.Test.YtlkbbcfbnbnagaaLoa
namespace Go.Proofs.Ytlkbbcfbnbnagaa
open Go.RowKit Go.BigFrame
attribute [local go_sem] Later.cell Later.frozen Lat.cell Lat.frozen
theorem wire_bed {b : Brd} {p : Pt} (h : onWire b p = true) : bedB b p = 0 ∧ ¬ b.wire = 0 := by
  refine ⟨by unfold bedB; rw [if_pos h], ?_⟩
  unfold onWire at h
  rw [Bool.and_eq_true, decide_eq_true_eq] at h
  exact h.1
def UpL (l : List Int) : Prop := (∀ i, (h : i < l.length) → 1 ≤ l[i]) ∧ ∀ i, (h : i + 1 < l.length) → l[i] < l[i + 1]
set_option maxRecDepth 100000 in
set_option maxHeartbeats 8000000 in
theorem law_BoardOne (x : Mad) (ra la : Option Addr) (rc lc : Nat) (v0 v1 ti : Int) (hf : x.fits) (h0 : 0 ≤ v0 ∧ v0 ≤ 65535) (h1 : 0 ≤ v1 ∧ v1 ≤ 65535) (hb : 0 ≤ ti ∧ ti ≤ 255) (w : World) (hr : CellsAt w .u8 ra x.rings) (hl : CellsAt w .u8 la x.lines) (hrl : x.rings.length ≤ maxLen) (hll : x.lines.length ≤ maxLen) :
    Calls Try.prog 7 #[.agg (x.cells ra la rc lc), .agg #[.int .u16 v0, .int .u16 v1], .int .u8 ti] w fun e w' => e = .returned (.bool true) ∧ Ext w w' := by
  have HM := Lib.hid (fun W (hx : Ext w W) => law_made x ra la rc lc W hf (hr.ext hx) (hl.ext hx) hrl hll)
  have HP := Lib.hid (fun W => law_point v0 v1 h0 h1 W)
  have HE := Lib.hid (made_ok x hf)
  have HME := Lib.hid (mir_ok x hf)
  have HSM := Lib.hid (made_small x)
  have HLI := Lib.hid (show linesB (madeB x).lines = true from made_lines x)
  have HML := Lib.hid (show linesB (mirL (madeB x).lines) = true from mir_lines x)
  have hnn : 3 ≤ (madeB x).nums.length ∧ (madeB x).nums.length ≤ 20 := by
    have := lnM_spec x
    have e : (madeB x).nums.length = lnM x := numsM_len x _
    rw [e]; exact ⟨this.1, this.2.1⟩
  generalize madeB x = b at *
  unfold Mad.cells at *
  obtain ⟨hb0, hb1⟩ := hb
  obtain ⟨px, hpx⟩ : ∃ c, v0 % 2501 - 1250 = c := ⟨_, rfl⟩
  obtain ⟨py, hpy⟩ : ∃ c, v1 % 2501 - 1250 = c := ⟨_, rfl⟩
  have p0 : -1250 ≤ px ∧ px ≤ 1250 := by omega
  have p1 : -1250 ≤ py ∧ py ≤ 1250 := by omega
  rw [hpx, hpy] at HP
  obtain ⟨p00, p01⟩ := p0
  obtain ⟨p10, p11⟩ := p1
  obtain ⟨tm, htm⟩ : ∃ c, 1 + ti % 4 = c := ⟨_, rfl⟩
  have HTM := Lib.hid htm
  have ht : 1 ≤ tm ∧ tm ≤ 4 := by omega
  have HFA := Lib.hid (far_ok (errB_good HSM.out HE.out) HLI.out ht ⟨px, py⟩)
  have HWB := Lib.hid (fun h => wire_bed (b := b) (p := ⟨px, py⟩) h)
  have HFO := Lib.hid (found_ok (errB_good HSM.out HE.out) HLI.out ⟨px, py⟩)
  have HUP := Lib.hid (show UpL (setL (allM b)) from all_up (errB_good HSM.out HE.out))
  have hpt := ptB_of (p := ⟨px, py⟩) (by show _ ≤ px ∧ px ≤ _; omega) (by show _ ≤ py ∧ py ≤ _; omega)
  obtain ⟨t1, t2⟩ := ht
  have hq0 : -5000 ≤ px * tm ∧ px * tm ≤ 5000 := by
    obtain rfl | rfl | rfl | rfl : tm = 1 ∨ tm = 2 ∨ tm = 3 ∨ tm = 4 := by omega
    all_goals omega
  have hq1 : -5000 ≤ py * tm ∧ py * tm ≤ 5000 := by
    obtain rfl | rfl | rfl | rfl : tm = 1 ∨ tm = 2 ∨ tm = 3 ∨ tm = 4 := by omega
    all_goals omega
  have hpq := ptB_of (p := mulP ⟨px, py⟩ tm) hq0 hq1
  have HBD := Lib.hid (fun v W h => calls_bed v b ⟨px, py⟩ W h HSM.out HE.out hpt)
  have HBQ := Lib.hid (fun v W h => calls_bed v b (mulP ⟨px, py⟩ tm) W h HSM.out HE.out hpq)
  obtain ⟨A, hA⟩ : ∃ c, bedB b ⟨px, py⟩ = c := ⟨_, rfl⟩
  obtain ⟨C, hC⟩ : ∃ c, bedB b (mulP ⟨px, py⟩ tm) = c := ⟨_, rfl⟩
  obtain ⟨wi, hwi⟩ : ∃ c, onWire b ⟨px, py⟩ = c := ⟨_, rfl⟩
  obtain ⟨wj, hwj⟩ : ∃ c, onWire b (mulP ⟨px, py⟩ tm) = c := ⟨_, rfl⟩
  have HA := Lib.hid hA
  have HWI := Lib.hid hwi
  rw [hA, hwi] at HBD
  rw [hC, hwj] at HBQ
  rw [hA, hC] at HFA
  rw [hA, hwi] at HWB
  rw [hA] at HFO
  have HAL := Lib.hid (fun v W h => calls_all v b W h HSM.out HE.out)
  have hln : (setL (allM b)).length ≤ 500 := by rw [setL_cnt]; exact cntB_small _ _
  obtain ⟨ls, hls⟩ : ∃ l, setL (allM b) = l := ⟨_, rfl⟩
  rw [hls] at HAL HFO HUP hln
  clear hls
  obtain ⟨q00, q01⟩ := hq0
  obtain ⟨q10, q11⟩ := hq1
  obtain ⟨qx, hqx⟩ : ∃ c, px * tm = c := ⟨_, rfl⟩
  obtain ⟨qy, hqy⟩ : ∃ c, py * tm = c := ⟨_, rfl⟩
  have HQX := Lib.hid hqx
  have HQY := Lib.hid hqy
  unfold mulP at HBQ
  rw [hqx, hqy] at HBQ
  rw [hqx] at q00 q01
  rw [hqy] at q10 q11
  clear hf h0 h1 hr hl hrl hll hpx hpy htm hpt hpq hA hC hwi hwj hqx hqy
  go_enter Try.func7, Try.ntmps7
  go_upto_region 1 with fail
  obtain ⟨w0, hw0⟩ : ∃ y, y = (w.alloc (.cells #[.slice ra x.rings.length rc, .slice la x.lines.length lc, .int .u8 x.first, .int .u8 x.wire] 45)).alloc (.cells #[.int .u16 v0, .int .u16 v1] 47) := ⟨_, rfl⟩
  rw [← hw0]
  have hx0 : Ext w w0 := by rw [hw0]; exact ((Ext.refl w).alloc _).alloc _
  have hbx : Blk w0 w.heap.size #[.slice ra x.rings.length rc, .slice la x.lines.length lc, .int .u8 x.first, .int .u8 x.wire] := by rw [hw0]; exact (Blk.new _ _ _).alloc _
  have hbv : Blk w0 (w.heap.size + 1) #[.int .u16 v0, .int .u16 v1] := by rw [hw0]; exact Blk.at _ (by simp)
  have x0 := hbx.cell 0 (v := .slice ra x.rings.length rc) rfl
  have x1 := hbx.cell 1 (v := .slice la x.lines.length lc) rfl
  have x2 := hbx.cell 2 (v := .int .u8 x.first) rfl
  have x3 := hbx.cell 3 (v := .int .u8 x.wire) rfl
  have xl := hbx.lt
  have y0 := hbv.cell 0 (v := .int .u16 v0) rfl
  have y1 := hbv.cell 1 (v := .int .u16 v1) rfl
  have yl := hbv.lt
  have hwn : ¬ (w0.heap.size ≤ w.heap.size) := by omega
  have hwn2 : ¬ (w0.heap.size ≤ w.heap.size + 1) := by omega
  have HX0 := Lib.hid hx0
  clear hw0 hx0 hbx hbv
  refine wp_region_calls (by kernel_rfl) [.no, .of (BoaS b) (boaW b) (boaW_ok b), .no, .no, .ptr, .ptr, .any, .any] w0.heap.size (fun (c : (Nat × World)) => c.2.heap.size)
    (fun (c : (Nat × World)) L u => [bif L 1 then Res.snap c else Res.none, bif L 1 then Res.pure (Ext w0 c.2 ∧ w0.heap.size ≤ c.1 ∧ BoaV b (u 1) c.1 c.2) else Res.none, bif L 4 then Res.blk (ptrAt (u 4)) (bif L 6 then #[aggAt 0 (u 1), aggAt 1 (u 1), aggAt 2 (u 1), aggAt 3 (u 1), aggAt 4 (u 1), aggAt 5 (u 1)] else #[.int .i64 0, .int .i64 0, .slice none 0 0, .slice none 0 0, .slice none 0 0, .int .i64 0]) else Res.none, bif L 5 then Res.blk (ptrAt (u 5)) (bif L 7 then #[.int .i64 px, .int .i64 py] else #[.int .i64 0, .int .i64 0]) else Res.none])
    (0, w0) (by kernel_rfl) (Nat.le_of_ble_eq_true rfl) (fun c L L' u hh => by simp only [hh 1 rfl, hh 4 rfl, hh 5 rfl, hh 6 rfl, hh 7 rfl]) (by simp) (fun _ => Frm.nones _ 4 w0) ?_
  intro T hT hne u hu
  obtain ⟨a1, a2, a3, a4, a5, a6, u1⟩ : BoaS b (u 1) := hu 1 rfl
  obtain ⟨k7, u4⟩ : ∃ k, u 4 = .pointer (some ⟨k, 0, none⟩) := hu 4 rfl
  obtain ⟨k8, u5⟩ : ∃ k, u 5 = .pointer (some ⟨k, 0, none⟩) := hu 5 rfl
  clear hu
  refine lx_next 1 (by rfl) (by decide) ?_
  dsimp only [List.take, List.drop]
  repeat (go_big_quiet_step (fail))
  refine wpQuiet_nil ?_
  refine lx_loud (by rfl) (by kernel_rfl) ?_ (fun K hK => ?_)
  · intro L w3 hL hd hcl hC hs
    obtain ⟨y, rfl⟩ := hC
    obtain ⟨c, hmc, hs⟩ := hs
    have hzs := y.size
    have h6 := hcl.off hL 40 6 (by kernel_rfl)
    simp only [hL, h6, cond_false] at hs
    have hX : Ext w0 y.world := Chg.to_ext (Ext.refl w0) y.chg (by rintro i ⟨_, h⟩; exact h)
    have hmc2 : c.2.heap.size ≤ y.world.heap.size := hmc
    have HS1 := Lib.hid hs
    clear hs
    go_wp2_with fail
    refine (HM.out _ (HX0.out.trans hX)).mono ?_
    rintro e w' ⟨v', rfl, hB, hN, hfr, hx⟩
    have hsz' := hx.size
    have hV : BoaV b (.agg (v'.cells b)) y.world.heap.size w' := ⟨v', rfl, hB, hN, hfr⟩
    obtain ⟨d1, d2, d3, e1, e2, e3⟩ := v'
    have HV := Lib.hid hV
    clear hV hB hN hfr
    unfold BrdV.cells at *
    simp only at *
    go_wp2
    exact lik_call y (Nat.le_refl _) ⟨_, _, _, _, _, _, rfl⟩ HS1.out 0 1 (by decide) rfl rfl hx (y.world.heap.size, w') (by show w'.heap.size ≤ w'.heap.size; omega) (φ := Ext w0 w' ∧ w0.heap.size ≤ y.world.heap.size ∧ BoaV b _ y.world.heap.size w') ⟨hX.trans hx, hzs, HV.out⟩ (by first | (simp [upd, updv, hL, h6]; done) | (simp [upd, updv, hL, h6]; rfl))
  rw [u1]
  go_simp
  with_reducible refine hK _ ?_
  clear hK K
  refine lx_next 2 (by rfl) (by decide) ?_
  dsimp only [List.take, List.drop]
  repeat (go_big_quiet_step (refine Calls.lat hT (HP.out _)))
  refine wpQuiet_nil ?_
  refine lx_loud (by rfl) (by kernel_rfl) ?_ (fun K hK => ?_)
  · intro L w3 hL hd hcl hC hs
    obtain ⟨y, rfl⟩ := hC
    obtain ⟨c, hmc, hs⟩ := hs
    have hzs := y.size
    have h6 := hcl.off hL 40 6 (by kernel_rfl)
    simp only [hL, h6, cond_false] at hs
    go_wp2
    exact lik_set y (Nat.le_refl _) ⟨_, rfl⟩ hs 2 (r' := Res.blk y.world.heap.size #[.int .i64 0, .int .i64 0, .slice none 0 0, .slice none 0 0, .slice none 0 0, .int .i64 0]) rfl (((Ext.refl y.world).alloc _).chg _) (Blk.new _ _ _) (fun k hk => .inr (by rw [show k = y.world.heap.size from hk]; simp)) c hmc (by first | (simp [upd, updv, hL, h6]; done) | (simp [upd, updv, hL, h6]; rfl))
  rw [u4]
  go_simp
  with_reducible refine hK _ ?_
  clear hK K
  refine lx_loud (by rfl) (by kernel_rfl) ?_ (fun K hK => ?_)
  · intro L w3 hL hd hcl hC hs
    obtain ⟨y, rfl⟩ := hC
    obtain ⟨c, hmc, hs⟩ := hs
    have hzs := y.size
    have h7 := hcl.off hL 40 7 (by kernel_rfl)
    simp only [hL, h7, cond_false] at hs
    go_wp2
    exact lik_set y (Nat.le_refl _) ⟨_, rfl⟩ hs 3 (r' := Res.blk y.world.heap.size #[.int .i64 0, .int .i64 0]) rfl (((Ext.refl y.world).alloc _).chg _) (Blk.new _ _ _) (fun k hk => .inr (by rw [show k = y.world.heap.size from hk]; simp)) c hmc (by first | (simp [upd, updv, hL, h7]; done) | (simp [upd, updv, hL, h7]; rfl))
  rw [u5]
  go_simp
  with_reducible refine hK _ ?_
  clear hK K
  refine lx_loud (by rfl) (by kernel_rfl) ?_ (fun K hK => ?_)
  · intro L w3 hL hd hcl hC hs
    obtain ⟨y, rfl⟩ := hC
    obtain ⟨c, hmc, hs⟩ := hs
    have hzs := y.size
    have h4 := hd 4 (by kernel_rfl)
    have h1 := hd 1 (by kernel_rfl)
    simp only [hL, h4, h1, cond_true, cond_false] at hs
    rw [u4] at hs
    have hb : Blk y.world k7 #[.int .i64 0, .int .i64 0, .slice none 0 0, .slice none 0 0, .slice none 0 0, .int .i64 0] := hs.get 2 rfl
    have hlt := hb.lt
    have q0 := hb.cell 0 (v := .int .i64 0) rfl
    have f0 := hb.frozen 0
    have q1 := hb.cell 1 (v := .int .i64 0) rfl
    have f1 := hb.frozen 1
    have q2 := hb.cell 2 (v := .slice none 0 0) rfl
    have f2 := hb.frozen 2
    have q3 := hb.cell 3 (v := .slice none 0 0) rfl
    have f3 := hb.frozen 3
    have q4 := hb.cell 4 (v := .slice none 0 0) rfl
    have f4 := hb.frozen 4
    have q5 := hb.cell 5 (v := .int .i64 0) rfl
    have f5 := hb.frozen 5
    go_wp2
    exact lik_set y (Nat.le_refl _) trivial hs 2 rfl (six_chg (fun k => k = k7) _ rfl _ _ _ _ _ _ ) (r' := Res.blk k7 #[.int .i64 b.eye, .int .i64 b.bull, .slice a1 b.rings.length a4, .slice a2 b.lines.length a5, .slice a3 b.nums.length a6, .int .i64 b.wire]) (six_set hb _ _ _ _ _ _ ) (fun _ hk => .inl hk) c hmc (by first | (simp [upd, updv, hL, h4, h1, u4, u1, aggAt, ptrAt]; done) | (simp [upd, updv, hL, h4, h1, u4, u1, aggAt, ptrAt]; rfl))
  go_simp
  with_reducible refine hK _ ?_
  clear hK K
  refine lx_loud (by rfl) (by kernel_rfl) ?_ (fun K hK => ?_)
  · intro L w3 hL hd hcl hC hs
    obtain ⟨y, rfl⟩ := hC
    obtain ⟨c, hmc, hs⟩ := hs
    have hzs := y.size
    have h5 := hd 5 (by kernel_rfl)
    simp only [hL, h5, cond_true, cond_false] at hs
    rw [u5] at hs
    have hb : Blk y.world k8 #[.int .i64 0, .int .i64 0] := hs.get 3 rfl
    have hlt := hb.lt
    have q0 := hb.cell 0 (v := .int .i64 0) rfl
    have f0 := hb.frozen 0
    have q1 := hb.cell 1 (v := .int .i64 0) rfl
    have f1 := hb.frozen 1
    go_wp2
    exact lik_set y (Nat.le_refl _) trivial hs 3 rfl (two_chg (fun k => k = k8) _ rfl _ _ ) (r' := Res.blk k8 #[.int .i64 px, .int .i64 py]) (two_set hb _ _ ) (fun _ hk => .inl hk) c hmc (by first | (simp [upd, updv, hL, h5, u5, ptrAt]; done) | (simp [upd, updv, hL, h5, u5, ptrAt]; rfl))
  go_simp
  with_reducible refine hK _ ?_
  clear hK K
  refine lx_nil ?_
  intro y hs
  obtain ⟨c, hmc, hs⟩ := hs
  rw [u1, u4, u5] at hs
  have hX : Ext w0 y.world := Chg.to_ext (Ext.refl w0) y.chg (by rintro i ⟨_, h⟩; exact h)
  have hmc2 : c.2.heap.size ≤ y.world.heap.size := hmc
  have hp1 : Ext w0 c.2 ∧ w0.heap.size ≤ c.1 ∧ BoaV b (.agg #[.int .i64 b.eye, .int .i64 b.bull, .slice a1 b.rings.length a4, .slice a2 b.lines.length a5, .slice a3 b.nums.length a6, .int .i64 b.wire]) c.1 c.2 := hs.get 1 rfl
  have hr1 := hp1.2.2.chg (snap_chg (hs.get 0 rfl) hp1.1 hX (by omega)) (fun k hk => hk.2)
  have hsl1 := hp1.2.1
  have hbk7 : Blk y.world k7 #[.int .i64 b.eye, .int .i64 b.bull, .slice a1 b.rings.length a4, .slice a2 b.lines.length a5, .slice a3 b.nums.length a6, .int .i64 b.wire] := hs.get 2 rfl
  have hlk7 := hs.lt 2 rfl k7 rfl
  have hbk8 : Blk y.world k8 #[.int .i64 px, .int .i64 py] := hs.get 3 rfl
  have hlk8 := hs.lt 3 rfl k8 rfl
  have hne_k7_k8 : k7 ≠ k8 := fun e => hs.parts 2 3 _ _ rfl rfl (by decide) k7 rfl e
  generalize c.1 = sz1 at *
  clear hs hp1 hmc hmc2 hT hne u1 u4 u5
  generalize y.world = w1 at *
  have HX1 := Lib.hid (HX0.out.trans hX)
  have HK7 := Lib.hid hbk7
  have HK8 := Lib.hid hbk8
  clear x0 x1 x2 x3 xl y0 y1 yl hwn hwn2 hX hbk7 hbk8 hlk7 hlk8 HP HM hne_k7_k8
  obtain ⟨v', e, hB, hN, -⟩ := hr1
  obtain ⟨d1, d2, d3, e1, e2, e3⟩ := v'
  unfold BrdV.cells at e
  simp only [Value.agg.injEq, Array.mk.injEq, List.cons.injEq, Value.slice.injEq, true_and, and_true] at e
  obtain ⟨⟨rfl, rfl⟩, ⟨rfl, rfl⟩, rfl, rfl⟩ := e
  have HB := Lib.hid hB
  have HN := Lib.hid hN
  clear hB hN hsl1
  have m0 := HK7.out.cell 0 (v := .int .i64 b.eye) rfl
  have m1 := HK7.out.cell 1 (v := .int .i64 b.bull) rfl
  have m2 := HK7.out.cell 2 (v := .slice a1 b.rings.length a4) rfl
  have m3 := HK7.out.cell 3 (v := .slice a2 b.lines.length a5) rfl
  have m4 := HK7.out.cell 4 (v := .slice a3 b.nums.length a6) rfl
  have m5 := HK7.out.cell 5 (v := .int .i64 b.wire) rfl
  have ml := HK7.out.lt
  go_wp2_with fail
  refine (law_own ⟨a1, a2, a3, a4, a5, a6⟩ b _ HB.out HN.out HSM.out).mono ?_
  rintro e w2 ⟨⟨r1, r2, r3, r4, r5, r6⟩, rfl, hB2, -, -, hx2⟩
  have HB2 := Lib.hid hB2
  have HX2 := Lib.hid hx2
  unfold BrdV.cells
  clear hB2 hx2
  go_wp2_with fail
  refine (HAL.out ⟨r1, r2, r3, r4, r5, r6⟩ _ HB2.out).mono ?_
  rintro e w3 ⟨la, lc, rfl, hcl, hx3⟩
  have hx13 := HX2.out.trans hx3
  have HL := Lib.hid hcl
  have HX3 := Lib.hid (HX1.out.trans hx13)
  have HB3 := Lib.hid (HB.out.ext hx13)
  have HK73 := Lib.hid (HK7.out.ext hx13)
  have HK83 := Lib.hid (HK8.out.ext hx13)
  clear hcl hx3 hx13 m0 m1 m2 m3 m4 m5 ml HB2 HX2 HX1 HB HK7 HK8
  go_upto_region 3 with fail
  have m0 : ∀ y : Lat NoX w3, y.world.cell? ⟨k7, 0, none⟩ = some (.int .i64 b.eye) := fun y => (HK73.out.ext (Lat.ext0 y)).cell 0 rfl
  have m1 : ∀ y : Lat NoX w3, y.world.cell? ⟨k7, 1, none⟩ = some (.int .i64 b.bull) := fun y => (HK73.out.ext (Lat.ext0 y)).cell 1 rfl
  have m2 : ∀ y : Lat NoX w3, y.world.cell? ⟨k7, 2, none⟩ = some (.slice a1 b.rings.length a4) := fun y => (HK73.out.ext (Lat.ext0 y)).cell 2 rfl
  have m3 : ∀ y : Lat NoX w3, y.world.cell? ⟨k7, 3, none⟩ = some (.slice a2 b.lines.length a5) := fun y => (HK73.out.ext (Lat.ext0 y)).cell 3 rfl
  have m4 : ∀ y : Lat NoX w3, y.world.cell? ⟨k7, 4, none⟩ = some (.slice a3 b.nums.length a6) := fun y => (HK73.out.ext (Lat.ext0 y)).cell 4 rfl
  have m5 : ∀ y : Lat NoX w3, y.world.cell? ⟨k7, 5, none⟩ = some (.int .i64 b.wire) := fun y => (HK73.out.ext (Lat.ext0 y)).cell 5 rfl
  have n0 : ∀ y : Lat NoX w3, y.world.cell? ⟨k8, 0, none⟩ = some (.int .i64 px) := fun y => (HK83.out.ext (Lat.ext0 y)).cell 0 rfl
  have n1 : ∀ y : Lat NoX w3, y.world.cell? ⟨k8, 1, none⟩ = some (.int .i64 py) := fun y => (HK83.out.ext (Lat.ext0 y)).cell 1 rfl
  refine wp_region_ext (by kernel_rfl) [.no, .boa b b, .no, .val (.tuple #[.int .i64 A, .bool wi, .int .i64 0])] (by kernel_rfl) (Nat.le_of_ble_eq_true rfl) ?_
  intro T hT hne u hu
  obtain ⟨p1, p2, p3, p4, p5, p6, u1⟩ : BoaS b (u 1) := hu 1 rfl
  have u3 : u 3 = .tuple #[.int .i64 A, .bool wi, .int .i64 0] := hu 3 rfl
  clear hu
  refine lx_next 1 (by rfl) (by decide) ?_
  dsimp only [List.take, List.drop]
  repeat (go_big_quiet_step (fail))
  refine wpQuiet_nil ?_
  refine lx_loud (by rfl) (by kernel_rfl) ?_ (fun K hK => ?_)
  · intro L w3 hL hd hcl hC hs
    obtain ⟨y, rfl⟩ := hC
    have hxy := Lat.ext0 y

    go_wp2_with fail
    refine (law_own ⟨a1, a2, a3, a4, a5, a6⟩ b _ (HB3.out.ext hxy) HN.out HSM.out).mono ?_
    rintro e w' ⟨v', rfl, hB', hN', -, hx⟩
    have HRK := Lib.hid (rik_call (i := 1) y hs ⟨_, _, _, _, _, _, rfl⟩ hx ⟨_, rfl, hB', hN'⟩)
    clear hs
    go_wp2
    exact HRK.out
  rw [u1]
  go_simp
  with_reducible refine hK _ ?_
  clear hK K
  refine lx_next 1 (by rfl) (by decide) ?_
  dsimp only [List.take, List.drop]
  repeat (go_big_quiet_step (fail))
  refine wpQuiet_nil ?_
  refine lx_loud (by rfl) (by kernel_rfl) ?_ (fun K hK => ?_)
  · intro L w3 hL hd hcl hC hs
    obtain ⟨y, rfl⟩ := hC
    have hxy := Lat.ext0 y
    have h1 := hs 1 rfl (hd 1 (by kernel_rfl))
    rw [u1] at h1
    obtain ⟨hB1, hN1⟩ := BoaT.at h1
    go_wp2_with fail
    refine (HBD.out ⟨p1, p2, p3, p4, p5, p6⟩ _ hB1).mono ?_
    rintro e w' ⟨rfl, hx⟩
    have HRK := Lib.hid (rik_call (i := 3) y hs rfl hx trivial)
    clear hs
    go_wp2
    exact HRK.out
  rw [u3]
  go_simp
  with_reducible refine hK _ ?_
  clear hK K
  refine lx_next 7 (by rfl) (by decide) ?_
  dsimp only [List.take, List.drop]
  repeat (go_big_quiet_step (fail))
  refine wpQuiet_nil ?_
  refine lx_nil ?_
  intro y hs
  have hxy := Lat.ext0 y
  have HX4 := Lib.hid (HX3.out.trans hxy)
  have HB4 := Lib.hid (HB3.out.ext hxy)
  have HK74 := Lib.hid (HK73.out.ext hxy)
  have HK84 := Lib.hid (HK83.out.ext hxy)
  have HL4 := Lib.hid (HL.out.ext hxy)
  generalize y.world = w4 at *
  clear hs hxy m0 m1 m2 m3 m4 m5 n0 n1 hT hne u1 u3 HX3 HB3 HK73 HK83 HL
  go_upto_region 4 with fail
  go_cut [65] from 42 to 65 (fun t wx => t = .bool false ∧ Ext w4 wx)
  case first =>
    have m0 := HK74.out.cell 0 (v := .int .i64 b.eye) rfl
    have m1 := HK74.out.cell 1 (v := .int .i64 b.bull) rfl
    have m2 := HK74.out.cell 2 (v := .slice a1 b.rings.length a4) rfl
    have m3 := HK74.out.cell 3 (v := .slice a2 b.lines.length a5) rfl
    have m4 := HK74.out.cell 4 (v := .slice a3 b.nums.length a6) rfl
    have m5 := HK74.out.cell 5 (v := .int .i64 b.wire) rfl
    have ml := HK74.out.lt
    go_wp2_with fail
    refine (law_own ⟨a1, a2, a3, a4, a5, a6⟩ b _ HB4.out HN.out HSM.out).mono ?_
    rintro e w5 ⟨⟨r1, r2, r3, r4, r5, r6⟩, rfl, hB5, -, -, hx5⟩
    have hck := brd_Check ⟨r1, r2, r3, r4, r5, r6⟩ b w5 hB5 HSM.out
    rw [HE.out] at hck
    have HCK := Lib.hid hck
    have HX5 := Lib.hid hx5
    unfold BrdV.cells at *
    clear hB5 hx5 hck
    go_wp2_with fail
    refine HCK.out.mono ?_
    rintro e w6 ⟨rfl, hx6⟩
    have hx46 := HX5.out.trans hx6
    have hb7 := HK74.out.ext hx46
    have HX6 := Lib.hid hx46
    clear hx46 hx6 m0 m1 m2 m3 m4 m5 ml
    have m0 := hb7.cell 0 (v := .int .i64 b.eye) rfl
    have m1 := hb7.cell 1 (v := .int .i64 b.bull) rfl
    have m2 := hb7.cell 2 (v := .slice a1 b.rings.length a4) rfl
    have m3 := hb7.cell 3 (v := .slice a2 b.lines.length a5) rfl
    have m4 := hb7.cell 4 (v := .slice a3 b.nums.length a6) rfl
    have m5 := hb7.cell 5 (v := .int .i64 b.wire) rfl
    have ml := hb7.lt
    clear hb7
    cases wi
    case false =>
      go_wp2
      go_meet
      exact ⟨rfl, HX6.out⟩
    case true =>
      obtain ⟨e1, e2⟩ := HWB.out rfl
      subst e1
      go_wp2
      go_meet
      exact ⟨congrArg Value.bool (beq_eq_false_iff_ne.2 e2), HX6.out⟩
  case rest =>
  obtain ⟨rfl, hxc⟩ := hcut
  have HX5 := Lib.hid (HX4.out.trans hxc)
  have HB5 := Lib.hid (HB4.out.ext hxc)
  have HK75 := Lib.hid (HK74.out.ext hxc)
  have HK85 := Lib.hid (HK84.out.ext hxc)
  have HL5 := Lib.hid (HL4.out.ext hxc)
  clear hxc HX4 HB4 HK74 HK84 HL4
  rename_i K0 a0
  refine a0 _ _ ?_
  have hA0 : ((A == 0) || (ls.take 0).contains A) = (A == 0) := by simp
  have HA0 := Lib.hid hA0
  clear hA0
  go_upto_block 0 with fail
  go_cut [14, 15] from 68 to 103 (fun t _ wx => t = .bool true ∧ Ext wc wx)
  case first =>
    go_wp2
    go_loopw [14, 15] (fun t i wr => ∃ k : Nat, k ≤ ls.length ∧ t = .bool ((A == 0) || (ls.take k).contains A) ∧ i = .int .i64 k ∧ Ext wc wr) (fun _ i _ => ls.length - (intOf i).toNat)
    case atStart => exact ⟨0, Nat.zero_le _, by rw [HA0.out], rfl, Ext.refl wc⟩
    case round =>
      obtain ⟨k, hk, rfl, rfl, hxr⟩ := hrel
      by_cases hlt : k < ls.length
      · have HCK := Lib.hid (contains_take A hlt)
        obtain ⟨gb, go, e, c0⟩ := (HL5.out.ext hxr) k hlt
        have c1 := lt_of_cell c0
        simp only at c1
        obtain ⟨z, hz⟩ : ∃ z, ls[k] = z := ⟨_, rfl⟩
        have hz1 : decide (z < 1) = false := by
          have := HUP.out.1 k hlt
          rw [hz] at this
          simp; omega
        have HXR := Lib.hid hxr
        rw [hz] at c0 HCK
        have HZ := Lib.hid hz
        generalize hcc : ((A == 0) || (ls.take k).contains A) = cc at *
        have HCC := Lib.hid hcc
        have hnx : Hid (((A == 0) || (ls.take (k + 1)).contains A) = (cc || z == A)) := Lib.hid (by rw [HCK.out, ← HCC.out, Bool.or_assoc])
        clear hz hcc hxr
        cases k with
        | zero =>
          subst e
          have e0 : ((0 : Nat) : Int) = 0 := rfl
          rw [e0]
          rw [Nat.add_zero] at c0
          clear e0
          cases hzm : (z == A) <;> cases cc
          all_goals
            rw [hzm] at hnx
            go_upto_region 11 with fail
            refine wp_region_later (by kernel_rfl) (by kernel_rfl) ?_
            repeat (go_big_quiet_step (fail))
            refine wpQuiet_nil ?_
            intro w4 hw4
            obtain ⟨⟨w4, hx4⟩, rfl⟩ := hw4
            have HX4 := Lib.hid (HXR.out.trans hx4)
            clear hx4
            go_wp2
            go_roundw
            case rel => exact ⟨1, by omega, by rw [hnx.out]; rfl, by go_num, HX4.out⟩
            case measure => simp [intOf]; omega
        | succ j =>
          obtain ⟨_, _, e', d0⟩ := (HL5.out.ext HXR.out) j (by omega)
          rw [e] at e'
          cases e'
          subst e
          obtain ⟨zp, hzp⟩ : ∃ z, ls[j] = z := ⟨_, rfl⟩
          have hz2 : decide (z ≤ zp) = false := by
            have := HUP.out.2 j hlt
            rw [hzp, HZ.out] at this
            simp; omega
          rw [hzp] at d0
          have hj0 : decide ((0 : Int) < (j : Int) + 1) = true := decide_eq_true (by omega)
          clear hzp
          cases hzm : (z == A) <;> cases cc
          all_goals
            rw [hzm] at hnx
            go_upto_region 11 with fail
            refine wp_region_later (by kernel_rfl) (by kernel_rfl) ?_
            repeat (go_big_quiet_step (fail))
            refine wpQuiet_nil ?_
            intro w4 hw4
            obtain ⟨⟨w4, hx4⟩, rfl⟩ := hw4
            have HX4 := Lib.hid (HXR.out.trans hx4)
            clear hx4
            go_wp2
            go_roundw
            case rel => exact ⟨j + 1 + 1, by omega, by rw [hnx.out]; rfl, by go_num, HX4.out⟩
            case measure => simp [intOf]; omega
      · obtain rfl : k = ls.length := by omega
        have hin : ((A == 0) || (ls.take ls.length).contains A) = true := by
          rw [List.take_of_length_le (Nat.le_refl _)]
          rcases HFO.out with h | h
          · rw [h]; rfl
          · rw [List.contains_iff_mem.2 h, Bool.or_true]
        rw [hin]
        have HXR := Lib.hid hxr
        clear hxr
        go_wp2
        go_meet
        exact ⟨rfl, HXR.out⟩
  case rest =>
  obtain ⟨rfl, hxc⟩ := hcut
  have HX6 := Lib.hid (HX5.out.trans hxc)
  have HB6 := Lib.hid (HB5.out.ext hxc)
  have HK76 := Lib.hid (HK75.out.ext hxc)
  have HK86 := Lib.hid (HK85.out.ext hxc)
  clear hxc HX5 HB5 HK75 HK85 HL5
  rename_i K1 b1
  refine b1 _ _ ?_
  have n0 := HK86.out.cell 0 (v := .int .i64 px) rfl
  have n1 := HK86.out.cell 1 (v := .int .i64 py) rfl
  have nl := HK86.out.lt
  have htm := HTM.out
  have hqx := HQX.out
  have hqy := HQY.out
  go_upto_region 14 with fail
  clear htm hqx hqy n0 n1 nl
  obtain ⟨W, hW⟩ : ∃ y, y = wc.alloc (.cells #[.int .i64 qx, .int .i64 qy] 53) := ⟨_, rfl⟩
  rw [← hW]
  have hxW : Ext wc W := by rw [hW]; exact (Ext.refl wc).alloc _
  have HK16 : Hid (Blk W wc.heap.size #[.int .i64 qx, .int .i64 qy]) := Lib.hid (by rw [hW]; exact Blk.new _ _ _)
  have HXW := Lib.hid (HX6.out.trans hxW)
  have HBW := Lib.hid (HB6.out.ext hxW)
  have HK7W := Lib.hid (HK76.out.ext hxW)
  have HK8W := Lib.hid (HK86.out.ext hxW)
  generalize wc.heap.size = k16 at *
  clear hW hxW HX6 HB6 HK76 HK86
  have m0 : ∀ y : Lat NoX W, y.world.cell? ⟨k7, 0, none⟩ = some (.int .i64 b.eye) := fun y => (HK7W.out.ext (Lat.ext0 y)).cell 0 rfl
  have m1 : ∀ y : Lat NoX W, y.world.cell? ⟨k7, 1, none⟩ = some (.int .i64 b.bull) := fun y => (HK7W.out.ext (Lat.ext0 y)).cell 1 rfl
  have m2 : ∀ y : Lat NoX W, y.world.cell? ⟨k7, 2, none⟩ = some (.slice a1 b.rings.length a4) := fun y => (HK7W.out.ext (Lat.ext0 y)).cell 2 rfl
  have m3 : ∀ y : Lat NoX W, y.world.cell? ⟨k7, 3, none⟩ = some (.slice a2 b.lines.length a5) := fun y => (HK7W.out.ext (Lat.ext0 y)).cell 3 rfl
  have m4 : ∀ y : Lat NoX W, y.world.cell? ⟨k7, 4, none⟩ = some (.slice a3 b.nums.length a6) := fun y => (HK7W.out.ext (Lat.ext0 y)).cell 4 rfl
  have m5 : ∀ y : Lat NoX W, y.world.cell? ⟨k7, 5, none⟩ = some (.int .i64 b.wire) := fun y => (HK7W.out.ext (Lat.ext0 y)).cell 5 rfl
  have n0 : ∀ y : Lat NoX W, y.world.cell? ⟨k16, 0, none⟩ = some (.int .i64 qx) := fun y => (HK16.out.ext (Lat.ext0 y)).cell 0 rfl
  have n1 : ∀ y : Lat NoX W, y.world.cell? ⟨k16, 1, none⟩ = some (.int .i64 qy) := fun y => (HK16.out.ext (Lat.ext0 y)).cell 1 rfl
  refine wp_region_ext (by kernel_rfl) [.no, .boa b b, .no, .val (.tuple #[.int .i64 C, .bool wj, .int .i64 0])] (by kernel_rfl) (Nat.le_of_ble_eq_true rfl) ?_
  intro T hT hne u hu
  obtain ⟨p1, p2, p3, p4, p5, p6, u1⟩ : BoaS b (u 1) := hu 1 rfl
  have u3 : u 3 = .tuple #[.int .i64 C, .bool wj, .int .i64 0] := hu 3 rfl
  clear hu
  refine lx_next 1 (by rfl) (by decide) ?_
  dsimp only [List.take, List.drop]
  repeat (go_big_quiet_step (fail))
  refine wpQuiet_nil ?_
  refine lx_loud (by rfl) (by kernel_rfl) ?_ (fun K hK => ?_)
  · intro L w3 hL hd hcl hC hs
    obtain ⟨y, rfl⟩ := hC
    have hxy := Lat.ext0 y

    go_wp2_with fail
    refine (law_own ⟨a1, a2, a3, a4, a5, a6⟩ b _ (HBW.out.ext hxy) HN.out HSM.out).mono ?_
    rintro e w' ⟨v', rfl, hB', hN', -, hx⟩
    have HRK := Lib.hid (rik_call (i := 1) y hs ⟨_, _, _, _, _, _, rfl⟩ hx ⟨_, rfl, hB', hN'⟩)
    clear hs
    go_wp2
    exact HRK.out
  rw [u1]
  go_simp
  with_reducible refine hK _ ?_
  clear hK K
  refine lx_next 1 (by rfl) (by decide) ?_
  dsimp only [List.take, List.drop]
  repeat (go_big_quiet_step (fail))
  refine wpQuiet_nil ?_
  refine lx_loud (by rfl) (by kernel_rfl) ?_ (fun K hK => ?_)
  · intro L w3 hL hd hcl hC hs
    obtain ⟨y, rfl⟩ := hC
    have hxy := Lat.ext0 y
    have h1 := hs 1 rfl (hd 1 (by kernel_rfl))
    rw [u1] at h1
    obtain ⟨hB1, hN1⟩ := BoaT.at h1
    go_wp2_with fail
    refine (HBQ.out ⟨p1, p2, p3, p4, p5, p6⟩ _ hB1).mono ?_
    rintro e w' ⟨rfl, hx⟩
    have HRK := Lib.hid (rik_call (i := 3) y hs rfl hx trivial)
    clear hs
    go_wp2
    exact HRK.out
  rw [u3]
  go_simp
  with_reducible refine hK _ ?_
  clear hK K
  refine lx_next 7 (by rfl) (by decide) ?_
  dsimp only [List.take, List.drop]
  repeat (go_big_quiet_step (fail))
  refine wpQuiet_nil ?_
  refine lx_nil ?_
  intro y hs
  have hxy := Lat.ext0 y
  have HX7 := Lib.hid (HXW.out.trans hxy)
  have HB7 := Lib.hid (HBW.out.ext hxy)
  have HK77 := Lib.hid (HK7W.out.ext hxy)
  have HK87 := Lib.hid (HK8W.out.ext hxy)
  generalize y.world = w7 at *
  clear hs hxy m0 m1 m2 m3 m4 m5 n0 n1 hT hne u1 u3 HXW HBW HK7W HK8W HK16
  have HDD : Hid (((C.tmod 100 != A.tmod 100) && (C != 0) && (A != 0) && (C.tmod 100 != 25) && (A.tmod 100 != 25)) = false) := Lib.hid (by
    rcases HFA.out with h | h | h | h | h <;> rw [h] <;> simp)
  go_upto_region 15 with fail
  go_cut [153] from 127 to 153 (fun t wx => t = .bool false ∧ wx = w7)
  case first =>
    cases hd1 : (C.tmod 100 != A.tmod 100)
    case false =>
      go_wp2
      go_meet
      exact ⟨rfl, rfl⟩
    case true =>
    cases hd2 : (C != 0)
    case false =>
      go_wp2
      go_meet
      exact ⟨rfl, rfl⟩
    case true =>
    cases hd3 : (A != 0)
    case false =>
      go_wp2
      go_meet
      exact ⟨rfl, rfl⟩
    case true =>
    cases hd4 : (C.tmod 100 != 25)
    case false =>
      go_wp2
      go_meet
      exact ⟨rfl, rfl⟩
    case true =>
    have hd5 : (A.tmod 100 != 25) = false := by
      have := HDD.out
      rw [hd1, hd2, hd3, hd4] at this
      simpa using this
    go_wp2
    go_meet
    exact ⟨rfl, rfl⟩
  case rest =>
  obtain ⟨rfl, rfl⟩ := hcut
  rename_i K2 b2
  refine b2 _ _ ?_
  go_upto_if 153 with fail
  go_cut [] from 300 to 300 (fun wx => wx = wc)
  case first =>
    go_wp2
    go_meet
    first | rfl | trivial
  case rest =>
  obtain rfl := hcut
  rename_i K3 b3
  refine b3 _ _ ?_
  exact one_tail _ (by kernel_rfl) b a1 a2 a3 a4 a5 a6 k7 k8 px py A wi w _ HX7 HE HSM ⟨p00, p01⟩ ⟨p10, p11⟩ HLI HML HME HA HWI hnn HB7 HN HK77 HK87
end Go.Proofs.Ytlkbbcfbnbnagaa
