/-
  The statement LegNamed: walked.
-/
import Derived.Test.YtocnglplhnhllaaSeo
import Derived.Test.YtocnglplhnhllaaTam
import Derived.Test.YtocnglplhnhllaaKep
import Derived.Test.YtocnglplhnhllaaKno
import Derived.Test.YtocnglplhnhllaaNam
import Derived.Test.YtocnglplhnhllaaLnt
namespace Go.Proofs.Ytocnglplhnhllaa
open Go.RowKit Go.BigFrame
attribute [local go_sem] Later.cell Later.frozen Lat.cell Lat.frozen
set_option maxRecDepth 100000 in
set_option maxHeartbeats 16000000 in
theorem law_LegNamed (H : Hnd) (sa ba : Option Addr) (sc bc : Nat) (at0 wh : Int) (hf : H.fits) (hat : 0 ≤ at0 ∧ at0 ≤ 255) (hwh : 0 ≤ wh ∧ wh ≤ 255) (w : World) (hS : CellsAt w .u16 sa H.starts) (hB : CellsAt w .u8 ba H.beds) :
    Calls Try.prog 9 #[.agg (H.cells sa ba sc bc), .int .u8 at0, .int .u8 wh] w fun e w' => e = .returned (.bool true) ∧ Ext w w' := by
  have HS := Lib.hid hS
  have HB := Lib.hid hB
  have HF := Lib.hid hf
  obtain ⟨r, hr⟩ : ∃ r, H.rul = r := ⟨_, rfl⟩
  have HR := Lib.hid hr
  obtain ⟨hat0, hat1⟩ := hat
  obtain ⟨hwh0, hwh1⟩ := hwh
  clear hS hB hf
  unfold Hnd.cells
  go_enter Try.func9, Try.ntmps9
  go_upto_region 1 with fail
  generalize hW0 : World.alloc w _ = w0
  have hx0 : Ext w w0 := by rw [← hW0]; exact (Ext.refl w).alloc _
  have hb0 : Blk w0 w.heap.size #[.slice sa H.starts.length sc, .int .u8 H.gates, .bool H.equal, .int .u8 H.rounds, .int .u8 H.first, .slice ba H.beds.length bc] := by rw [← hW0]; exact Blk.new w _ _
  have hru := fun W (hx : Ext w0 W) => hand_rules H sa ba sc bc HF.out W (HS.out.ext (hx0.trans hx))
  rw [hr] at hru
  have HRu := Lib.hid hru
  have HTa := Lib.hid (fun W (hx : Ext w0 W) => hand_tale H sa ba sc bc HF.out W (HS.out.ext (hx0.trans hx)) (HB.out.ext (hx0.trans hx)))
  have z0 := hb0.cell 0 (v := .slice sa H.starts.length sc) rfl
  have z1 := hb0.cell 1 (v := .int .u8 H.gates) rfl
  have z2 := hb0.cell 2 (v := .bool H.equal) rfl
  have z3 := hb0.cell 3 (v := .int .u8 H.rounds) rfl
  have z4 := hb0.cell 4 (v := .int .u8 H.first) rfl
  have z5 := hb0.cell 5 (v := .slice ba H.beds.length bc) rfl
  have hwl := hb0.lt
  have hwn : ¬ (w0.heap.size ≤ w.heap.size) := by omega
  have HX0 := Lib.hid hx0
  clear hW0 hb0 hru hr hx0
  refine wp_region_calls (by kernel_rfl) [.no, .of (RulS r) (rulW r) (rulW_shape r), .no, .of TalS talW talW_shape, .ptr, .ptr, .any, .any] w0.heap.size (fun c => max c.1.2.heap.size c.2.2.heap.size)
    (fun (c : (Nat × World) × (Nat × World)) L u => [bif L 1 then Res.snap c.1 else Res.none, bif L 1 then Res.pure (Ext w0 c.1.2 ∧ w0.heap.size ≤ c.1.1 ∧ RulV r (u 1) c.1.1 c.1.2) else Res.none, bif L 3 then Res.snap c.2 else Res.none, bif L 3 then Res.pure (Ext w0 c.2.2 ∧ w0.heap.size ≤ c.2.1 ∧ TalV H (u 3) c.2.1 c.2.2) else Res.none,
      bif L 4 then Res.blk (ptrAt (u 4)) (bif L 6 then #[aggAt 0 (u 1), aggAt 1 (u 1), aggAt 2 (u 1), aggAt 3 (u 1)] else #[.slice none 0 0, .int .i64 0, .int .i64 0, .bool false]) else Res.none, bif L 5 then Res.blk (ptrAt (u 5)) (bif L 7 then #[aggAt 0 (u 3), aggAt 1 (u 3), aggAt 2 (u 3), aggAt 3 (u 3), aggAt 4 (u 3), aggAt 5 (u 3), aggAt 6 (u 3), aggAt 7 (u 3)] else #[.slice none 0 0, .slice none 0 0, .slice none 0 0, .slice none 0 0, .slice none 0 0, .slice none 0 0, .int .i64 0, .bool false]) else Res.none])
    ((0, w0), (0, w0)) (by kernel_rfl) (Nat.le_of_ble_eq_true rfl) (fun c L L' u hh => by simp only [hh 1 rfl, hh 3 rfl, hh 4 rfl, hh 5 rfl, hh 6 rfl, hh 7 rfl]) (by simp) (fun _ => Frm.nones _ 6 w0) ?_
  intro T hT hne u hu
  obtain ⟨a1, c1, u1⟩ : RulS r (u 1) := hu 1 rfl
  obtain ⟨a30, a31, a32, a33, a34, a35, n30, n31, n32, n33, n34, n35, c30, c31, c32, c33, c34, c35, gr3, ov3, u3⟩ : TalS (u 3) := hu 3 rfl
  obtain ⟨k4, u4⟩ : ∃ k, u 4 = .pointer (some ⟨k, 0, none⟩) := hu 4 rfl
  obtain ⟨k5, u5⟩ : ∃ k, u 5 = .pointer (some ⟨k, 0, none⟩) := hu 5 rfl
  clear hu
  refine lx_next 1 (by rfl) (by decide) ?_
  dsimp only [List.take, List.drop]
  repeat (go_big_quiet_step (fail))
  refine wpQuiet_nil ?_
  refine lx_loud (by rfl) (by kernel_rfl) ?_ (fun K hK => ?_)
  · intro L w3 hL hd hcl hC hs
    obtain ⟨x, rfl⟩ := hC
    obtain ⟨c, hmc, hs⟩ := hs
    have hzs := x.size
    have h6 := hcl.off hL 40 6 (by kernel_rfl)
    simp only [hL, h6, cond_false] at hs
    have hX : Ext w0 x.world := Chg.to_ext (Ext.refl w0) x.chg (by rintro i ⟨_, h⟩; exact h)
    go_wp2_with fail
    refine (HRu.out _ hX).mono ?_
    rintro e w' ⟨a, cc', rfl, hO, hC, hx⟩
    have hsz' := hx.size
    go_wp2
    exact lik_call x (Nat.le_refl _) ⟨_, _, rfl⟩ hs 0 1 (by decide) rfl rfl hx ((x.world.heap.size, w'), c.2) (by show max w'.heap.size c.2.2.heap.size ≤ w'.heap.size; have hmc2 : max c.1.2.heap.size c.2.2.heap.size ≤ x.world.heap.size := hmc; omega) (φ := Ext w0 w' ∧ w0.heap.size ≤ x.world.heap.size ∧ RulV r _ x.world.heap.size w') ⟨hX.trans hx, hzs, ⟨_, _, rfl, hO⟩⟩ (by first | (simp [upd, updv, h6, hL]; done) | (simp [upd, updv, h6, hL]; rfl))
  rw [u1]
  go_simp
  with_reducible refine hK _ ?_
  clear hK K
  refine lx_next 1 (by rfl) (by decide) ?_
  dsimp only [List.take, List.drop]
  repeat (go_big_quiet_step (fail))
  refine wpQuiet_nil ?_
  refine lx_loud (by rfl) (by kernel_rfl) ?_ (fun K hK => ?_)
  · intro L w3 hL hd hcl hC hs
    obtain ⟨x, rfl⟩ := hC
    obtain ⟨c, hmc, hs⟩ := hs
    have hzs := x.size
    have h7 := hcl.off hL 40 7 (by kernel_rfl)
    simp only [hL, h7, cond_false] at hs
    have hX : Ext w0 x.world := Chg.to_ext (Ext.refl w0) x.chg (by rintro i ⟨_, h⟩; exact h)
    go_wp2_with fail
    refine (HTa.out _ hX).mono ?_
    rintro e w' ⟨l, us, g, E, A, vv, lv, tv, iv, ev, av, rfl, hP, hx⟩
    have hsz' := hx.size
    have hV : TalV H (.agg #[vv, lv, tv, iv, ev, av, .int .i64 g.round, .bool g.over]) x.world.heap.size w' := ⟨l, us, g, E, A, vv, lv, tv, iv, ev, av, rfl, hP⟩
    have hsh := hV.shape
    have HV' := Lib.hid hV
    have HSh := Lib.hid hsh
    clear hV hsh hP
    go_wp2
    exact lik_call x (Nat.le_refl _) HSh.out hs 2 3 (by decide) rfl rfl hx (c.1, (x.world.heap.size, w')) (by show max c.1.2.heap.size w'.heap.size ≤ w'.heap.size; have hmc2 : max c.1.2.heap.size c.2.2.heap.size ≤ x.world.heap.size := hmc; omega) (φ := Ext w0 w' ∧ w0.heap.size ≤ x.world.heap.size ∧ TalV H _ x.world.heap.size w') ⟨hX.trans hx, hzs, HV'.out⟩ (by first | (simp [upd, updv, h7, hL]; done) | (simp [upd, updv, h7, hL]; rfl))
  rw [u3]
  go_simp
  with_reducible refine hK _ ?_
  clear hK K
  refine lx_loud (by rfl) (by kernel_rfl) ?_ (fun K hK => ?_)
  · intro L w3 hL hd hcl hC hs
    obtain ⟨x, rfl⟩ := hC
    obtain ⟨c, hmc, hs⟩ := hs
    have hzs := x.size
    have h6 := hcl.off hL 40 6 (by kernel_rfl)
    simp only [hL, h6, cond_false] at hs
    go_wp2
    exact lik_set x (Nat.le_refl _) ⟨_, rfl⟩ hs 4 (r' := Res.blk x.world.heap.size #[.slice none 0 0, .int .i64 0, .int .i64 0, .bool false]) rfl (((Ext.refl x.world).alloc _).chg _) (Blk.new _ _ _) (fun k hk => .inr (by rw [show k = x.world.heap.size from hk]; simp)) c hmc (by first | (simp [upd, updv, h6, hL]; done) | (simp [upd, updv, h6, hL]; rfl))
  rw [u4]
  go_simp
  with_reducible refine hK _ ?_
  clear hK K
  refine lx_loud (by rfl) (by kernel_rfl) ?_ (fun K hK => ?_)
  · intro L w3 hL hd hcl hC hs
    obtain ⟨x, rfl⟩ := hC
    obtain ⟨c, hmc, hs⟩ := hs
    have hzs := x.size
    have h7 := hcl.off hL 40 7 (by kernel_rfl)
    simp only [hL, h7, cond_false] at hs
    go_wp2
    exact lik_set x (Nat.le_refl _) ⟨_, rfl⟩ hs 5 (r' := Res.blk x.world.heap.size #[.slice none 0 0, .slice none 0 0, .slice none 0 0, .slice none 0 0, .slice none 0 0, .slice none 0 0, .int .i64 0, .bool false]) rfl (((Ext.refl x.world).alloc _).chg _) (Blk.new _ _ _) (fun k hk => .inr (by rw [show k = x.world.heap.size from hk]; simp)) c hmc (by first | (simp [upd, updv, h7, hL]; done) | (simp [upd, updv, h7, hL]; rfl))
  rw [u5]
  go_simp
  with_reducible refine hK _ ?_
  clear hK K
  refine lx_loud (by rfl) (by kernel_rfl) ?_ (fun K hK => ?_)
  · intro L w3 hL hd hcl hC hs
    obtain ⟨x, rfl⟩ := hC
    obtain ⟨c, hmc, hs⟩ := hs
    have hzs := x.size
    have h4 := hd 4 (by kernel_rfl)
    have h1 := hd 1 (by kernel_rfl)
    simp only [hL, h4, h1, cond_true, cond_false] at hs
    rw [u4] at hs
    have hb : Blk x.world k4 #[.slice none 0 0, .int .i64 0, .int .i64 0, .bool false] := hs.get 4 rfl
    have hlt := hb.lt
    have q0 := hb.cell 0 (v := .slice none 0 0) rfl
    have f0 := hb.frozen 0
    have q1 := hb.cell 1 (v := .int .i64 0) rfl
    have f1 := hb.frozen 1
    have q2 := hb.cell 2 (v := .int .i64 0) rfl
    have f2 := hb.frozen 2
    have q3 := hb.cell 3 (v := .bool false) rfl
    have f3 := hb.frozen 3
    go_wp2
    exact lik_set x (Nat.le_refl _) trivial hs 4 rfl (four_chg (fun k => k = k4) _ rfl _ _ _ _ ) (r' := Res.blk k4 #[.slice a1 r.counts.length c1, .int .i64 r.first, .int .i64 r.rounds, .bool r.equal]) (four_set hb _ _ _ _ ) (fun _ hk => .inl hk) c hmc (by first | (simp [upd, updv, h4, h1, hL, u4, u1, aggAt, ptrAt]; done) | (simp [upd, updv, h4, h1, hL, u4, u1, aggAt, ptrAt]; rfl))
  go_simp
  with_reducible refine hK _ ?_
  clear hK K
  refine lx_loud (by rfl) (by kernel_rfl) ?_ (fun K hK => ?_)
  · intro L w3 hL hd hcl hC hs
    obtain ⟨x, rfl⟩ := hC
    obtain ⟨c, hmc, hs⟩ := hs
    have hzs := x.size
    have h5 := hd 5 (by kernel_rfl)
    have h3 := hd 3 (by kernel_rfl)
    simp only [hL, h5, h3, cond_true, cond_false] at hs
    rw [u5] at hs
    have hb : Blk x.world k5 #[.slice none 0 0, .slice none 0 0, .slice none 0 0, .slice none 0 0, .slice none 0 0, .slice none 0 0, .int .i64 0, .bool false] := hs.get 5 rfl
    have hlt := hb.lt
    have q0 := hb.cell 0 (v := .slice none 0 0) rfl
    have f0 := hb.frozen 0
    have q1 := hb.cell 1 (v := .slice none 0 0) rfl
    have f1 := hb.frozen 1
    have q2 := hb.cell 2 (v := .slice none 0 0) rfl
    have f2 := hb.frozen 2
    have q3 := hb.cell 3 (v := .slice none 0 0) rfl
    have f3 := hb.frozen 3
    have q4 := hb.cell 4 (v := .slice none 0 0) rfl
    have f4 := hb.frozen 4
    have q5 := hb.cell 5 (v := .slice none 0 0) rfl
    have f5 := hb.frozen 5
    have q6 := hb.cell 6 (v := .int .i64 0) rfl
    have f6 := hb.frozen 6
    have q7 := hb.cell 7 (v := .bool false) rfl
    have f7 := hb.frozen 7
    go_wp2
    exact lik_set x (Nat.le_refl _) trivial hs 5 rfl (eight_chg (fun k => k = k5) _ rfl _ _ _ _ _ _ _ _ ) (r' := Res.blk k5 #[.slice a30 n30 c30, .slice a31 n31 c31, .slice a32 n32 c32, .slice a33 n33 c33, .slice a34 n34 c34, .slice a35 n35 c35, .int .i64 gr3, .bool ov3]) (eight_set hb _ _ _ _ _ _ _ _ ) (fun _ hk => .inl hk) c hmc (by first | (simp [upd, updv, h5, h3, hL, u5, u3, aggAt, ptrAt]; done) | (simp [upd, updv, h5, h3, hL, u5, u3, aggAt, ptrAt]; rfl))
  go_simp
  with_reducible refine hK _ ?_
  clear hK K
  refine lx_nil ?_
  intro x hs
  obtain ⟨c, hmc, hs⟩ := hs
  rw [u1, u3, u4, u5] at hs
  have hX : Ext w0 x.world := Chg.to_ext (Ext.refl w0) x.chg (by rintro i ⟨_, h⟩; exact h)
  have hp1 : Ext w0 c.1.2 ∧ w0.heap.size ≤ c.1.1 ∧ RulV r (.agg #[.slice a1 r.counts.length c1, .int .i64 r.first, .int .i64 r.rounds, .bool r.equal]) c.1.1 c.1.2 := hs.get 1 rfl
  have hp3 : Ext w0 c.2.2 ∧ w0.heap.size ≤ c.2.1 ∧ TalV H (.agg #[.slice a30 n30 c30, .slice a31 n31 c31, .slice a32 n32 c32, .slice a33 n33 c33, .slice a34 n34 c34, .slice a35 n35 c35, .int .i64 gr3, .bool ov3]) c.2.1 c.2.2 := hs.get 3 rfl
  have hmc' : max c.1.2.heap.size c.2.2.heap.size ≤ x.world.heap.size := hmc
  have hr1 := hp1.2.2.chg (snap_chg (hs.get 0 rfl) hp1.1 hX (by omega)) (fun k hk => hk.2)
  have ht1 := hp3.2.2.chg (snap_chg (hs.get 2 rfl) hp3.1 hX (by omega)) (fun k hk => hk.2)
  have hb4 : Blk x.world k4 #[.slice a1 r.counts.length c1, .int .i64 r.first, .int .i64 r.rounds, .bool r.equal] := hs.get 4 rfl
  have hb5 : Blk x.world k5 #[.slice a30 n30 c30, .slice a31 n31 c31, .slice a32 n32 c32, .slice a33 n33 c33, .slice a34 n34 c34, .slice a35 n35 c35, .int .i64 gr3, .bool ov3] := hs.get 5 rfl
  have hs1l := hp1.2.1
  have hs3l := hp3.2.1
  generalize c.1.1 = s1 at *
  generalize c.2.1 = s3 at *
  clear hs hp1 hp3 hmc hmc' hT hne u1 u3 u4 u5
  generalize x.world = w1 at *
  clear x z0 z1 z2 z3 z4 z5 hwn
  obtain ⟨hCr, hCn⟩ := hr1.reads
  obtain ⟨l, g, E, A, hT⟩ := ht1.reads
  have HT := Lib.hid hT
  have HCr := Lib.hid hCr
  have HCn := Lib.hid hCn
  have HX1 := Lib.hid (HX0.out.trans hX)
  have HB4 := Lib.hid hb4
  have HB5 := Lib.hid hb5
  have hHr : H.counts = r.counts := by rw [← HR.out]; rfl
  have c0 := hb4.cell 0 (v := .slice a1 r.counts.length c1) rfl
  have d0 := hb5.cell 0 (v := .slice a30 n30 c30) rfl
  have HHr := Lib.hid hHr
  have hk4l := hb4.lt
  have hk5l := hb5.lt
  clear hCr hCn hT hr1 ht1 hX hb4 hb5 hHr hs1l hs3l HRu HTa hwl
  by_cases hn0 : r.counts.length = 0
  · go_wp2_with fail
    refine (law_known _).mono ?_
    rintro e w2 ⟨rfl, hx2⟩
    go_wp2
    go_ret
    exact ⟨rfl, HX1.out.trans hx2⟩
  have b0 : ((r.counts.length : Int) == 0) = false := by simp; intro h; exact hn0 (by simp [h])
  by_cases hl0 : n30 = 0
  · go_wp2_with fail
    refine (law_known _).mono ?_
    rintro e w2 ⟨rfl, hx2⟩
    go_wp2
    go_ret
    exact ⟨rfl, HX1.out.trans hx2⟩
  have b1 : ((n30 : Int) == 0) = false := by simp; omega
  have hI := HT.out.tale (by rw [HHr.out]; omega)
  have hok := Hnd.rul_ok HF.out (by rw [HHr.out]; omega)
  rw [HR.out] at hI hok
  have HI := Lib.hid hI
  have HOK := Lib.hid hok
  have hlen := HT.out.len
  have hsh := HT.out.short
  have hn60 : n30 ≤ 60 := by omega
  have HLEN := Lib.hid hlen
  have hrl := Rul.ok_length hok
  have hrl8 := hrl.2
  obtain ⟨i, hi⟩ : ∃ i : Nat, at0 % (n30 : Int) = (i : Int) := ⟨(at0 % (n30 : Int)).toNat, by rw [Int.toNat_of_nonneg (Int.emod_nonneg _ (by omega))]⟩
  have hin : i < n30 := by have := Int.emod_lt_of_pos at0 (by omega : (0 : Int) < n30); omega
  have hil : i < l.length := by omega
  obtain ⟨b, o, bb, bcap, hba, p0, p1, hbe, hbn⟩ := HT.out.vis i hil
  obtain ⟨v, hv⟩ : ∃ v, l[i] = v := ⟨_, rfl⟩
  have hfv := (HI.out.fits _ (List.getElem_mem hil))
  have hrt : 0 ≤ l[i].player ∧ l[i].player < r.counts.length := by
    have h1 := HI.out.play
    rw [← List.take_append_drop i l] at h1
    obtain ⟨g1, h2, h3⟩ := playL_split r _ _ _ _ _ h1
    exact (right_at hil h3).2.2.1
  rw [hv] at p0 p1 hbe hbn hfv hrt
  have HV := Lib.hid hv
  have HFV := Lib.hid hfv
  have HRT := Lib.hid hrt
  have HBE := Lib.hid hbe
  have HBN := Lib.hid hbn
  have HI0 := Lib.hid hi
  subst hba
  clear hI hok hlen hsh hrl hv hfv hrt hbe hbn
  have hbl := lt_of_cell p0
  simp only at hbl
  obtain ⟨pl, bds⟩ := v
  simp only at p0 p1
  go_upto_region 6 with fail
  generalize hW2 : World.alloc w1 _ = w2
  have hx2 : Ext w1 w2 := by rw [← hW2]; exact (Ext.refl w1).alloc _
  have hb10 : Blk w2 w1.heap.size #[.int .i64 pl, .slice bb bds.length bcap] := by rw [← hW2]; exact Blk.new w1 _ _
  have hs2 : w2.heap.size = w1.heap.size + 1 := by rw [← hW2]; simp
  obtain ⟨k10, hk10⟩ : ∃ k, k = w1.heap.size := ⟨_, rfl⟩
  rw [← hk10] at hb10 ⊢
  have e0 := hb10.cell 0 (v := .int .i64 pl) rfl
  have e1 := hb10.cell 1 (v := .slice bb bds.length bcap) rfl
  have hk10l := hb10.lt
  have HB10 := Lib.hid hb10
  have HX2 := Lib.hid hx2
  have HB4' := Lib.hid (HB4.out.ext hx2)
  have HB5' := Lib.hid (HB5.out.ext hx2)
  have hnk : ¬ (w2.heap.size ≤ k10) := by omega
  have hct : CellsAt w2 .i64 bb bds := HBE.out.ext hx2
  have HCT := Lib.hid hct
  have hbd3 : bds.length ≤ 3 := HFV.out.2.1.2
  have hbd1 : 1 ≤ bds.length := HFV.out.2.1.1
  obtain ⟨B, hBe⟩ : ∃ B, B = w2.heap.size := ⟨_, rfl⟩
  have hlo : B ≤ w2.heap.size := by omega
  have hlo2 : w2.heap.size ≤ B := by omega
  have hnk2 : ¬ (B ≤ k10) := by omega
  have hk4B : k4 < B := by omega
  have hk5B : k5 < B := by omega
  clear hW2 hx2 hb10 hs2 hct p0 p1 c0 d0 hBe hk10 hnk
  refine wp_region_sep (by kernel_rfl) [.no, .no, .box 0, .no, .no, .app bds.length, .no, .ptr, .any] B
    (fun L u => [bif L 5 then Res.own B 34 1 (u 5) bds.length (bds.map (Value.int .i64)) else (bif L 2 then Res.own B 34 1 (u 2) 0 [] else Res.none), bif L 7 then Res.blk (ptrOf (u 7)) (bif L 8 then #[.int .i64 pl, u 5] else #[.int .i64 0, .slice none 0 0]) else Res.none])
    (by kernel_rfl) (Nat.le_of_ble_eq_true rfl) (fun L L' u hh => by simp only [hh 5 rfl, hh 2 rfl, hh 7 rfl, hh 8 rfl]) (fun _ => Frm.nones B 2 w2) ?_
  intro T hT hne u hu
  obtain ⟨k2, u2⟩ : ∃ k, u 2 = .slice (some ⟨k, 0, none⟩) 0 0 := hu 2 rfl
  obtain ⟨a5, c5, u5⟩ : ∃ a c, u 5 = .slice a bds.length c := hu 5 rfl
  obtain ⟨k7, u7⟩ : ∃ k, u 7 = .pointer (some ⟨k, 0, none⟩) := hu 7 rfl
  clear hu
  refine lx_next 2 (by rfl) (by decide) ?_
  dsimp only [List.take, List.drop]
  repeat (go_big_quiet_step (fail))
  refine wpQuiet_nil ?_
  refine lx_loud (by rfl) (by kernel_rfl) ?_ (fun K hK => ?_)
  · intro L w3 hL hd hcl hC hs
    obtain ⟨x, rfl⟩ := hC
    have hzs := x.size
    have h5 := hcl.off hL 40 5 (by kernel_rfl)
    simp only [hL, h5, cond_false] at hs
    go_wp2
    exact aft_set x hlo ⟨_, rfl⟩ hs 0 (r' := Res.own B 34 1 (.slice (some ⟨x.world.heap.size, 0, none⟩) 0 0) 0 []) rfl (((Ext.refl x.world).alloc _).chg _) (own_empty rfl (by omega)) (fun k hk => .inr (by rw [← own_blk hk]; simp)) (by first | (simp [upd, updv, h5, hL]; done) | (simp [upd, updv, h5, hL]; rfl))
  rw [u2]
  go_simp
  with_reducible refine hK _ ?_
  clear hK K
  refine lx_next 2 (by rfl) (by decide) ?_
  dsimp only [List.take, List.drop]
  repeat (go_big_quiet_step (fail))
  refine wpQuiet_nil ?_
  refine lx_loud (by rfl) (by kernel_rfl) ?_ (fun K hK => ?_)
  · intro L w3 hL hd hcl hC hs
    obtain ⟨x, rfl⟩ := hC
    have hzs := x.size
    have h8 := hcl.off hL 40 8 (by kernel_rfl)
    have h2 := hd 2 (by kernel_rfl)
    simp only [hL, h8, h2, cond_true, cond_false] at hs
    rw [u2] at hs
    have hX : Ext w2 x.world := Chg.to_ext (Ext.refl w2) x.chg (by rintro i ⟨_, h⟩; have h : B ≤ i := h; omega)
    refine wp_append_from rfl _ _ 27 34 _ 1 _ rfl info_bed (by kernel_rfl) rfl (by decide) B _ 0 [] rfl (hs.get 0 rfl) bb bds.length bcap (bds.map (Value.int .i64)) rfl HBN.out (by simp) (CellsAt.vals (HCT.out.ext hX)) (ints_one _ _) (by omega) (by decide) (by omega) ?_
    intro v' w4 ho4 hC4 hn4
    rw [Nat.zero_add, List.nil_append] at ho4
    obtain ⟨av, ac, rfl⟩ := own_shape ho4
    go_wp2
    exact aft_set x hlo ⟨_, _, rfl⟩ hs 0 rfl hC4 (r' := Res.own B 34 1 (.slice av _ ac) _ _) ho4 hn4 (by first | (simp [upd, updv, h8, h2, hL, u2]; done) | (simp [upd, updv, h8, h2, hL, u2]; rfl))
  rw [u5]
  go_simp
  with_reducible refine hK _ ?_
  clear hK K
  refine lx_next 1 (by rfl) (by decide) ?_
  dsimp only [List.take, List.drop]
  repeat (go_big_quiet_step (fail))
  refine wpQuiet_nil ?_
  refine lx_loud (by rfl) (by kernel_rfl) ?_ (fun K hK => ?_)
  · intro L w3 hL hd hcl hC hs
    obtain ⟨x, rfl⟩ := hC
    have hzs := x.size
    have h8 := hcl.off hL 40 8 (by kernel_rfl)
    simp only [hL, h8, cond_false] at hs
    go_wp2
    exact aft_set x hlo ⟨_, rfl⟩ hs 1 (r' := Res.blk x.world.heap.size #[.int .i64 0, .slice none 0 0]) rfl (((Ext.refl x.world).alloc _).chg _) (Blk.new _ _ _) (fun k hk => .inr (by rw [show k = x.world.heap.size from hk]; simp)) (by first | (simp [upd, updv, h8, hL]; done) | (simp [upd, updv, h8, hL]; rfl))
  rw [u7]
  go_simp
  with_reducible refine hK _ ?_
  clear hK K
  refine lx_loud (by rfl) (by kernel_rfl) ?_ (fun K hK => ?_)
  · intro L w3 hL hd hcl hC hs
    obtain ⟨x, rfl⟩ := hC
    have hzs := x.size
    have h7 := hd 7 (by kernel_rfl)
    have h5 := hd 5 (by kernel_rfl)
    simp only [hL, h7, h5, cond_true, cond_false] at hs
    rw [u7] at hs
    have hb : Blk x.world k7 #[.int .i64 0, .slice none 0 0] := hs.get 1 rfl
    have hlt := hb.lt
    have q0 := hb.cell 0 (v := .int .i64 0) rfl
    have f0 := hb.frozen 0
    have q1 := hb.cell 1 (v := .slice none 0 0) rfl
    have f1 := hb.frozen 1
    go_wp2
    exact aft_set x hlo trivial hs 1 rfl (two_chg (fun k => k = k7) _ rfl _ _) (r' := Res.blk k7 #[.int .i64 pl, .slice a5 bds.length c5]) (two_set hb _ _) (fun _ hk => .inl hk) (by first | (simp [upd, updv, h7, h5, hL, u7, u5]; done) | (simp [upd, updv, h7, h5, hL, u7, u5]; rfl))
  go_simp
  with_reducible refine hK _ ?_
  clear hK K
  refine lx_next 2 (by rfl) (by decide) ?_
  dsimp only [List.take, List.drop]
  repeat (go_big_quiet_step (fail))
  refine wpQuiet_nil ?_
  refine lx_nil ?_
  intro x hs
  rw [u5, u7] at hs
  have hs3 : Frm B [Res.own B 34 1 (.slice a5 bds.length c5) bds.length (bds.map (Value.int .i64)), Res.blk k7 #[.int .i64 pl, .slice a5 bds.length c5]] x.world := hs
  have hX3 : Ext w2 x.world := Chg.to_ext (Ext.refl w2) x.chg (by rintro i ⟨_, h⟩; have h : B ≤ i := h; omega)
  have HS3 := Lib.hid hs3
  have HX3 := Lib.hid hX3
  clear hs hs3 hX3 hT hne u2 u5 u7 e0 e1
  generalize x.world = w3 at *
  clear x
  obtain ⟨q, hq⟩ : ∃ q, wh % 5 = q := ⟨_, rfl⟩
  have hq5 : q = 0 ∨ q = 1 ∨ q = 2 ∨ q = 3 ∨ q = 4 := by omega
  have HQ := Lib.hid hq5
  clear hq5
  go_upto_block 0 with fail
  have HQQ := Lib.hid hq
  clear hq
  have hplay := HI.out.play
  have hbeds : (LV.mk pl bds).fits ∧ bds.length ≤ 3 := ⟨HFV.out.1, HFV.out.2.1.2⟩
  have HPL := Lib.hid hplay
  have HFB := Lib.hid hbeds
  have hcB : r.counts.length ≤ 8 := hrl8
  obtain ⟨hpl0, hpl1⟩ := HRT.out
  simp only at hpl0 hpl1
  clear hplay hbeds
  go_cut [9, 12, 13] (fun ii ww dd wx => ∃ (i' : Nat) (bad : LV) (want dart : Int) (bv : Value), ii = .int .i64 i' ∧ ww = .int .i64 want ∧ dd = .int .i64 dart ∧ i' ≤ n30 ∧ BadV r l g i' bad want dart ∧ Frm B [Res.own B 34 1 bv bad.beds.length (bad.beds.map (Value.int .i64)), Res.blk k7 #[.int .i64 bad.player, bv]] wx ∧ Ext w2 wx)
  case first =>
    have hsz3 := HX3.out.size
    have hlo3 : B ≤ w3.heap.size := by omega
    have hb10 := HB10.out.ext HX3.out
    have e0 := hb10.cell 0 (v := .int .i64 pl) rfl
    have e1 := hb10.cell 1 (v := .slice bb bds.length bcap) rfl
    have hl10 : k10 < w3.heap.size := by omega
    have hb7 : Blk w3 k7 #[.int .i64 pl, .slice a5 bds.length c5] := HS3.out.get 1 rfl
    have h70 := hb7.cell 0 (v := .int .i64 pl) rfl
    have h71 := hb7.cell 1 (v := .slice a5 bds.length c5) rfl
    have f70 := hb7.frozen 0
    have f71 := hb7.frozen 1
    have hl7 := hb7.lt
    have hk7B := (HS3.out.lt 1 rfl k7 rfl).1
    have hb4 := HB4'.out.ext HX3.out
    have c0 := hb4.cell 0 (v := .slice a1 r.counts.length c1) rfl
    have hl4 := hb4.lt
    have hb5 := HB5'.out.ext HX3.out
    have d0 := hb5.cell 0 (v := .slice (some ⟨b, o, none⟩) n30 c30) rfl
    have d7 := hb5.cell 7 (v := .bool ov3) rfl
    have hl5 := hb5.lt
    obtain ⟨g5, c5', ea5, hg5B, hg5l⟩ := own_pos (HS3.out.get 0 rfl) hbd1
    obtain ⟨rfl, rfl⟩ : a5 = some ⟨g5, 0, none⟩ ∧ c5 = c5' := by injection ea5 with h1 _ h3; exact ⟨h1, h3⟩
    clear hb10 hb7 hb4 hb5 ea5
    rcases HQ.out with rfl | rfl | rfl | rfl | rfl
    · -- another player
      have t0 : (wh % 5 == (0 : Int)) = true := by rw [HQQ.out]; rfl
      obtain ⟨p', hp'⟩ : ∃ p' : Nat, (pl + 1 + wh / 5) % (r.counts.length : Int) = (p' : Int) := ⟨((pl + 1 + wh / 5) % (r.counts.length : Int)).toNat, by rw [Int.toNat_of_nonneg (Int.emod_nonneg _ (by omega))]⟩
      have hp'n : (p' : Int) < r.counts.length := by rw [← hp']; exact Int.emod_lt_of_pos _ (by omega)
      cases hpp : ((p' : Int) == pl)
      · have hbad := bad_turn (i := i) HPL.out hil (by rw [HV.out]; exact HFB.out) (p := p') ⟨by omega, hp'n⟩ (by rw [HV.out]; simpa using hpp) ⟨by omega, by omega⟩
        rw [HV.out] at hbad
        have HBad := Lib.hid hbad
        clear hbad
        go_wp2
        go_meet
        exact ⟨i, ⟨p', bds⟩, 30, -1, _, rfl, rfl, rfl, by omega, HBad.out, HS3.out.store (j := 0) 1 rfl (.int .i64 p') hlo3, HX3.out.setCell (p := ⟨k7, 0, none⟩) (by show _ ≤ k7; omega) _⟩
      · have hbad := bad_nobody (i := i) HPL.out hil (by rw [HV.out]; exact HFB.out) (by omega)
        rw [HV.out] at hbad
        have HBad := Lib.hid hbad
        have hs4 := HS3.out.store (j := 0) 1 rfl (.int .i64 p') hlo3
        have hs5 := Frm.store (j := 0) hs4 1 rfl (.int .i64 r.counts.length) (by simp [World.setCell]; omega)
        have HS5 := Lib.hid hs5
        have HX5 := Lib.hid ((HX3.out.setCell (p := ⟨k7, 0, none⟩) (by show _ ≤ k7; omega) (.int .i64 p')).setCell (p := ⟨k7, 0, none⟩) (by show _ ≤ k7; omega) (.int .i64 r.counts.length))
        clear hbad hs4 hs5
        go_wp2
        go_meet
        exact ⟨i, ⟨r.counts.length, bds⟩, 2, -1, _, rfl, rfl, rfl, by omega, HBad.out, HS5.out, HX5.out⟩
    · -- a dart less
      have t0 : (wh % 5 == (0 : Int)) = false := by rw [HQQ.out]; rfl
      have t1 : (wh % 5 == (1 : Int)) = true := by rw [HQQ.out]; rfl
      obtain ⟨m, hm⟩ : ∃ m, bds.length = m + 1 := ⟨bds.length - 1, by omega⟩
      have hbad := bad_beds (i := i) (bs := bds.take m) (d := -1) (e := 31) HPL.out hil (by decide) (by rw [HV.out]; exact ⟨⟨HFB.out.1.1, fun x hx => HFB.out.1.2.1 x (List.mem_of_mem_take hx), by show (bds.take m).length ≤ _; rw [List.length_take]; omega⟩, by rw [List.length_take]; omega⟩) (fun gin gout left inn h => by
        rw [HV.out] at h
        have := thr_less h (by show 1 ≤ bds.length; omega)
        rw [show bds.length - 1 = m by omega] at this
        exact this)
      rw [HV.out] at hbad
      have HBad := Lib.hid hbad
      have hown := HS3.out.get 0 rfl
      have hshr : w3.ownsRow B 34 1 (.slice (some ⟨g5, 0, none⟩) m c5) (bds.take m).length ((bds.take m).map (Value.int .i64)) := by
        have e : (bds.take m).length = m := by rw [List.length_take]; omega
        rw [e, List.map_take]
        exact own_shrink hown (by omega)
      have hs4 := HS3.out.set 0 (r' := Res.own B 34 1 (.slice (some ⟨g5, 0, none⟩) m c5) (bds.take m).length ((bds.take m).map (Value.int .i64))) rfl (Chg.refl _ _) hshr (fun k hk => .inl hk) hlo3
      have HS4 := Lib.hid (Frm.store (j := 1) hs4 1 rfl (.slice (some ⟨g5, 0, none⟩) m c5) hlo3)
      have HM := Lib.hid hm
      rw [hm] at h71 e1
      have hcap : m + 1 ≤ c5 := by
        have h := hown
        obtain ⟨_, ⟨e, _⟩ | ⟨g, cap, cur, e, _, _, h3, _⟩⟩ := h
        · cases e
        · cases e; omega
      have hm1000 : m ≤ 1000 := by omega
      have HWM := Lib.hid (wrap64_nat' hm1000)
      have HMC : Hid ((m : Int) ≤ (c5 : Int)) := Lib.hid (by omega)
      have HIN : Hid (i ≤ n30) := Lib.hid (by omega)
      have HK7 : Hid (w2.heap.size ≤ k7) := Lib.hid (by omega)
      have HW2 : Hid (wrap64 (m : Int) = (m : Int)) := Lib.hid (wrap64_nat hm1000)
      clear hbad hown hshr hs4 hm
      go_wp2
      go_meet
      exact ⟨i, ⟨pl, bds.take m⟩, 31, -1, _, rfl, rfl, rfl, HIN.out, HBad.out, HS4.out, HX3.out.setCell (p := ⟨k7, 1, none⟩) HK7.out _⟩
    · -- a dart more
      have t0 : (wh % 5 == (0 : Int)) = false := by rw [HQQ.out]; rfl
      have t1 : (wh % 5 == (1 : Int)) = false := by rw [HQQ.out]; rfl
      have t2 : (wh % 5 == (2 : Int)) = true := by rw [HQQ.out]; rfl
      have hbad := bad_beds (i := i) (bs := bds ++ [0]) (d := bds.length) (e := 32) HPL.out hil (by decide) (by rw [HV.out]; exact ⟨⟨HFB.out.1.1, fun x hx => by rcases List.mem_append.1 hx with hx | hx; exact HFB.out.1.2.1 x hx; rw [List.mem_singleton.1 hx]; exact ⟨by decide, by decide⟩, by show (bds ++ [0]).length ≤ _; rw [List.length_append, List.length_singleton]; omega⟩, by rw [List.length_append, List.length_singleton]; omega⟩) (fun gin gout left inn h => by
        rw [HV.out] at h
        exact thr_more h 0)
      rw [HV.out] at hbad
      have HBad := Lib.hid hbad
      have n10 : ¬ (B ≤ k10) := hnk2
      clear hbad h70 h71 f70 f71
      go_upto_region 18 with fail
      refine wp_region_sep (by kernel_rfl) [.no, .val (.slice (some ⟨g5, 0, none⟩) bds.length c5), .box 1, .app (bds.length + 1), .no, .no, .no, .no, .any] B
        (fun L u => [bif L 3 then Res.own B 34 1 (u 3) (bds.length + 1) (bds.map (Value.int .i64) ++ [.int .i64 0]) else Res.own B 34 1 (.slice (some ⟨g5, 0, none⟩) bds.length c5) bds.length (bds.map (Value.int .i64)), Res.blk k7 #[.int .i64 pl, bif L 8 then u 3 else .slice (some ⟨g5, 0, none⟩) bds.length c5], bif L 2 then Res.own B 34 1 (u 2) 1 [.int .i64 0] else Res.none])
        (by kernel_rfl) (Nat.le_of_ble_eq_true rfl) (fun L L' u hh => by simp only [hh 3 rfl, hh 8 rfl, hh 2 rfl]) (fun _ => HS3.out.more (r := Res.none) trivial fun _ h => h) ?_
      intro T hT hne u hu
      have u1 : u 1 = .slice (some ⟨g5, 0, none⟩) bds.length c5 := hu 1 rfl
      obtain ⟨k2, u2⟩ : ∃ k, u 2 = .slice (some ⟨k, 0, none⟩) 1 1 := hu 2 rfl
      obtain ⟨a3, c3, u3⟩ : ∃ a c, u 3 = .slice a (bds.length + 1) c := hu 3 rfl
      have hlo := hlo3
      clear hu
      refine lx_next 1 (by rfl) (by decide) ?_
      dsimp only [List.take, List.drop]
      repeat (go_big_quiet_step (fail))
      refine wpQuiet_nil ?_
      refine lx_loud (by rfl) (by kernel_rfl) ?_ (fun K hK => ?_)
      · intro L w3 hL hd hcl hC hs
        obtain ⟨x, rfl⟩ := hC
        have hzs := x.size
        have h8 := hcl.off hL 40 8 (by kernel_rfl)
        simp only [h8, cond_false] at hs
        have hcc := (hs.get 1 rfl).cell 1 (v := .slice (some ⟨g5, 0, none⟩) bds.length c5) rfl
        have hlt := (hs.get 1 rfl).lt
        go_wp2
        exact aft_same x rfl hs (by first | (simp [upd, updv, h8]; done) | (simp [upd, updv, h8, hL]; rfl))
      rw [u1]
      go_simp
      with_reducible refine hK _ ?_
      clear hK K
      refine lx_loud (by rfl) (by kernel_rfl) ?_ (fun K hK => ?_)
      · intro L w3 hL hd hcl hC hs
        obtain ⟨x, rfl⟩ := hC
        have hzs := x.size
        have h3 := hcl.off hL 40 3 (by kernel_rfl)
        simp only [hL, h3, cond_false] at hs
        go_wp2
        exact aft_set x hlo ⟨_, rfl⟩ hs 2 (r' := Res.own B 34 1 (.slice (some ⟨x.world.heap.size, 0, none⟩) 1 1) 1 [.int .i64 0]) rfl (((Ext.refl x.world).alloc _).chg _) (own_box (by omega) (by decide) rfl) (fun k hk => .inr (by rw [← own_blk hk]; simp)) (by first | (simp [upd, updv, h3, hL]; done) | (simp [upd, updv, h3, hL]; rfl))
      rw [u2]
      go_simp
      with_reducible refine hK _ ?_
      clear hK K
      refine lx_loud (by rfl) (by kernel_rfl) ?_ (fun K hK => ?_)
      · intro L w3 hL hd hcl hC hs
        obtain ⟨x, rfl⟩ := hC
        have hzs := x.size
        have h8 := hcl.off hL 40 8 (by kernel_rfl)
        have h2 := hd 2 (by kernel_rfl)
        simp only [hL, h8, h2, cond_true, cond_false] at hs
        rw [u2] at hs
        refine wp_append_sep rfl _ _ 27 34 _ 1 _ rfl info_bed (by kernel_rfl) rfl (by decide) B _ _ _ rfl (hs.get 0 rfl) B k2 1 1 _ rfl (hs.get 2 rfl) (fun u hu => by rw [List.mem_singleton.1 hu]; rfl) (by omega) (by decide) (by omega) ?_
        intro v' w4 ho4 hC4 hn4
        obtain ⟨av, ac, rfl⟩ := own_shape ho4
        go_wp2
        exact aft_set x hlo ⟨_, _, rfl⟩ hs 0 rfl hC4 (r' := Res.own B 34 1 (.slice av _ ac) _ _) ho4 hn4 (by first | (simp [upd, updv, h8, h2, hL, u2]; done) | (simp [upd, updv, h8, h2, hL, u2]; rfl))
      rw [u3]
      go_simp
      with_reducible refine hK _ ?_
      clear hK K
      refine lx_next 4 (by rfl) (by decide) ?_
      dsimp only [List.take, List.drop]
      repeat (go_big_quiet_step (fail))
      refine wpQuiet_nil ?_
      refine lx_loud (by rfl) (by kernel_rfl) ?_ (fun K hK => ?_)
      · intro L w3 hL hd hcl hC hs
        obtain ⟨x, rfl⟩ := hC
        have hzs := x.size
        have h3 := hd 3 (by kernel_rfl)
        simp only [hL, h3, cond_true, cond_false] at hs
        have f1 := (hs.get 1 rfl).frozen 1
        have hlt := (hs.get 1 rfl).lt
        have hcc := (hs.get 1 rfl).cell 1 rfl
        go_wp2
        exact aft_store x hlo trivial hs 1 rfl (by first | (simp [upd, updv, h3, hL, u3]; done) | (simp [upd, updv, h3, hL, u3]; rfl))
      go_simp
      with_reducible refine hK _ ?_
      clear hK K
      refine lx_next 2 (by rfl) (by decide) ?_
      dsimp only [List.take, List.drop]
      repeat (go_big_quiet_step (fail))
      refine wpQuiet_nil ?_
      refine lx_nil ?_
      intro x hs
      rw [u3] at hs
      have hs4 : Frm B ([Res.own B 34 1 (.slice a3 (bds ++ [0]).length c3) (bds ++ [0]).length ((bds ++ [0]).map (Value.int .i64)), Res.blk k7 #[.int .i64 pl, .slice a3 (bds ++ [0]).length c3]] ++ [Res.own B 34 1 (u 2) 1 [.int .i64 0]]) x.world := by
        rw [List.length_append, List.map_append]
        exact hs
      have HS4 := Lib.hid (hs4.left (rs' := [_]))
      have HX4 := Lib.hid (Chg.to_ext HX3.out x.chg (by rintro i ⟨_, h⟩; have h : B ≤ i := h; omega))
      clear hs hs4 hT hne u1 u2 u3
      generalize x.world = w4 at *
      clear x
      go_wp2
      go_meet
      exact ⟨i, ⟨pl, bds ++ [0]⟩, 32, bds.length, _, rfl, rfl, rfl, by omega, HBad.out, HS4.out, HX4.out⟩
    · -- a bed that there is not
      have t0 : (wh % 5 == (0 : Int)) = false := by rw [HQQ.out]; rfl
      have t1 : (wh % 5 == (1 : Int)) = false := by rw [HQQ.out]; rfl
      have t2 : (wh % 5 == (2 : Int)) = false := by rw [HQQ.out]; rfl
      have t3 : (wh % 5 == (3 : Int)) = true := by rw [HQQ.out]; rfl
      obtain ⟨d, hd⟩ : ∃ d : Nat, (wh / 5) % (bds.length : Int) = (d : Int) := ⟨((wh / 5) % (bds.length : Int)).toNat, by rw [Int.toNat_of_nonneg (Int.emod_nonneg _ (by omega))]⟩
      have hdl : d < bds.length := by have := Int.emod_lt_of_pos (wh / 5) (by omega : (0 : Int) < bds.length); omega
      have hbad := bad_beds (i := i) (bs := bds.set d 121) (d := d) (e := 2) HPL.out hil (by decide) (by rw [HV.out]; exact ⟨⟨HFB.out.1.1, fun x hx => by rcases List.mem_or_eq_of_mem_set hx with hx | hx; exact HFB.out.1.2.1 x hx; rw [hx]; exact ⟨by decide, by decide⟩, by show (bds.set d 121).length ≤ _; rw [List.length_set]; omega⟩, by rw [List.length_set]; omega⟩) (fun gin gout left inn h => by
        rw [HV.out] at h
        exact thr_wrong h hdl (by decide))
      rw [HV.out] at hbad
      have HBad := Lib.hid hbad
      have hcd := own_int_at (HS3.out.get 0 rfl) hdl
      have hfd := World.ownsRow.frozenAt (HS3.out.get 0 rfl) d
      have hset : w3.setCell ⟨g5, d, none⟩ (.int .i64 121) = w3.setCell ⟨g5, d, none⟩ (.int .i64 121) := rfl
      have hs4 := HS3.out.set 0 rfl (Chg.setCell (S := fun k => (Value.slice (some ⟨g5, 0, none⟩) bds.length c5).ownBlock = some k) (Chg.refl _ _) (p := ⟨g5, d, none⟩) (.inr rfl) (.int .i64 121)) (r' := Res.own B 34 1 (.slice (some ⟨g5, 0, none⟩) bds.length c5) bds.length ((bds.map (Value.int .i64)).set d (.int .i64 121))) (own_set (HS3.out.get 0 rfl) _) (fun _ hk => .inl hk) hlo3
      have hs5 : Frm B [Res.own B 34 1 (.slice (some ⟨g5, 0, none⟩) bds.length c5) (bds.set d 121).length ((bds.set d 121).map (Value.int .i64)), Res.blk k7 #[.int .i64 pl, .slice (some ⟨g5, 0, none⟩) bds.length c5]] (w3.setCell ⟨g5, d, none⟩ (.int .i64 121)) := by
        rw [List.length_set, List.map_set]
        exact hs4
      have HS5 := Lib.hid hs5
      clear hbad hs4 hs5 hset
      go_wp2
      go_meet
      exact ⟨i, ⟨pl, bds.set d 121⟩, 2, d, _, rfl, rfl, rfl, by omega, HBad.out, HS5.out, HX3.out.setCell (p := ⟨g5, d, none⟩) (by show _ ≤ g5; omega) _⟩
    · -- after the end
      have t0 : (wh % 5 == (0 : Int)) = false := by rw [HQQ.out]; rfl
      have t1 : (wh % 5 == (1 : Int)) = false := by rw [HQQ.out]; rfl
      have t2 : (wh % 5 == (2 : Int)) = false := by rw [HQQ.out]; rfl
      have t3 : (wh % 5 == (3 : Int)) = false := by rw [HQQ.out]; rfl
      cases ov3
      · go_wp2_with fail
        refine (law_known _).mono ?_
        rintro e w4 ⟨rfl, hx4⟩
        go_wp2
        go_ret
        exact ⟨rfl, ((HX1.out.trans HX2.out).trans HX3.out).trans hx4⟩
      · have hbad := bad_over HPL.out (by rw [← HT.out.over]) (b := ⟨pl, bds⟩) ⟨HFB.out.1, by show bds.length ≤ 10; omega⟩
        rw [← HLEN.out] at hbad
        have HBad := Lib.hid hbad
        clear hbad
        go_wp2
        go_meet
        exact ⟨n30, ⟨pl, bds⟩, 33, -1, _, rfl, rfl, rfl, Nat.le_refl _, HBad.out, HS3.out, HX3.out⟩
  case rest =>
    obtain ⟨i', bad, want, dart, bv, rfl, rfl, rfl, hi', hbad, hs4, hx4⟩ := hcut
    have hX4 : Ext w1 wc := HX2.out.trans hx4
    rename_i K0 a0
    refine a0 _ _ ?_
    exact named_tail _ (by kernel_rfl) r l g k4 k5 k7 i' B n30 c30 b o c1 want dart gr3 ov3 bad bv _ _ _ _ _ a1 w wc
      (Lib.hid (HB4.out.ext hX4)) (Lib.hid (HB5.out.ext hX4)) (Lib.hid (HCr.out.ext hX4)) HCn (Lib.hid (HT.out.vis.ext hX4)) HLEN hn60 HT.out.cap hi' (Lib.hid hbad) HPL (Lib.hid (fun v hv => ⟨(HI.out.fits v hv).1, (HI.out.fits v hv).2.1.2⟩)) HOK (by omega) hcB (Lib.hid HT.out.over) (Lib.hid HI.out.ok.left)
      (Lib.hid hs4) (by have := hx4.size; omega) (Lib.hid (HX1.out.trans hX4))
end Go.Proofs.Ytocnglplhnhllaa
