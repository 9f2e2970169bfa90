/-
  The statement BoardTurned.
-/
import Derived.Test.YtlkbbcfbnbnagaaLbb
import Derived.Test.YtlkbbcfbnbnagaaLbf
import Derived.Test.YtlkbbcfbnbnagaaMdt
import Derived.Test.YtlkbbcfbnbnagaaSen
import Derived.Test.YtlkbbcfbnbnagaaRex
namespace Go.Proofs.Ytlkbbcfbnbnagaa
open Go.RowKit Go.BigFrame
attribute [local go_sem] Later.cell Later.frozen Lat.cell Lat.frozen
theorem six_set {w : World} {b : Nat} {v0 v1 v2 v3 v4 v5 : Value} (h : Blk w b #[v0, v1, v2, v3, v4, v5]) (x0 x1 x2 x3 x4 x5 : Value) :
    Blk ((((((w.setCell ⟨b, 0, none⟩ x0).setCell ⟨b, 1, none⟩ x1).setCell ⟨b, 2, none⟩ x2).setCell ⟨b, 3, none⟩ x3).setCell ⟨b, 4, none⟩ x4).setCell ⟨b, 5, none⟩ x5) b #[x0, x1, x2, x3, x4, x5] := by
  have h0 : Blk _ b #[x0, v1, v2, v3, v4, v5] := h.set 0 x0
  have h1 : Blk _ b #[x0, x1, v2, v3, v4, v5] := h0.set 1 x1
  have h2 : Blk _ b #[x0, x1, x2, v3, v4, v5] := h1.set 2 x2
  have h3 : Blk _ b #[x0, x1, x2, x3, v4, v5] := h2.set 3 x3
  have h4 : Blk _ b #[x0, x1, x2, x3, x4, v5] := h3.set 4 x4
  have h5 : Blk _ b #[x0, x1, x2, x3, x4, x5] := h4.set 5 x5
  exact h5
theorem six_chg (S : Nat → Prop) (w : World) {b : Nat} (hb : S b) (x0 x1 x2 x3 x4 x5 : Value) : Chg S w ((((((w.setCell ⟨b, 0, none⟩ x0).setCell ⟨b, 1, none⟩ x1).setCell ⟨b, 2, none⟩ x2).setCell ⟨b, 3, none⟩ x3).setCell ⟨b, 4, none⟩ x4).setCell ⟨b, 5, none⟩ x5) :=
  ((((((Chg.refl S w).setCell (.inr hb) x0).setCell (.inr hb) x1).setCell (.inr hb) x2).setCell (.inr hb) x3).setCell (.inr hb) x4).setCell (.inr hb) x5
theorem two_set {w : World} {b : Nat} {v0 v1 : Value} (h : Blk w b #[v0, v1]) (x0 x1 : Value) : Blk ((w.setCell ⟨b, 0, none⟩ x0).setCell ⟨b, 1, none⟩ x1) b #[x0, x1] := by
  have h0 : Blk _ b #[x0, v1] := h.set 0 x0
  have h1 : Blk _ b #[x0, x1] := h0.set 1 x1
  exact h1
theorem two_chg (S : Nat → Prop) (w : World) {b : Nat} (hb : S b) (x0 x1 : Value) : Chg S w ((w.setCell ⟨b, 0, none⟩ x0).setCell ⟨b, 1, none⟩ x1) := ((Chg.refl S w).setCell (.inr hb) x0).setCell (.inr hb) x1
def pntM (v0 v1 : Int) : Pt := ⟨v0 % 2501 - 1250, v1 % 2501 - 1250⟩
theorem law_point (v0 v1 : Int) (h0 : 0 ≤ v0 ∧ v0 ≤ 65535) (h1 : 0 ≤ v1 ∧ v1 ≤ 65535) (w : World) : Calls Try.prog 19 #[.agg #[.int .u16 v0, .int .u16 v1]] w fun e w' => e = .returned (.agg #[.int .i64 (v0 % 2501 - 1250), .int .i64 (v1 % 2501 - 1250)]) ∧ Ext w w' := by
  obtain ⟨a0, a1⟩ := h0
  obtain ⟨b0, b1⟩ := h1
  go_enter Try.func19, Try.ntmps19
  go_wp2
  refine bodyPost_ret (v := .agg #[.int .i64 (v0 % 2501 - 1250), .int .i64 (v1 % 2501 - 1250)]) (by simp [results, Try.results19, go_sem]) rfl ⟨rfl, ?_⟩
  first | exact Ext.refl w | exact (Ext.refl w).alloc _ | exact ((Ext.refl w).alloc _).alloc _
theorem pnt_ok (v0 v1 : Int) : (pntM v0 v1).ok := by
  unfold pntM Pt.ok
  simp only
  omega
theorem tb_cells (v : BrdV) {b : Brd} {k : Nat} (hk : k ≤ b.nums.length) : v.cells (tbB b k) = v.cells b := by
  unfold BrdV.cells tbB
  simp only [turnL_len _ _ hk]
theorem TurV.nil {s : Nat} {v v' : BrdV} {b : Brd} {k : Nat} (h : TurV v v' b.nums.length s) (hn : BrdNil v b) (hk : k ≤ b.nums.length) : BrdNil v' (tbB b k) := by
  obtain ⟨-, h1, h2, h3, h4, h5, h6⟩ := h
  refine ⟨fun e => by rw [h2]; exact hn.r (h1 ▸ e), fun e => by rw [h4]; exact hn.l (h3 ▸ e), fun e => absurd e h5, ?_⟩
  show (turnL b.nums k).length ≤ _ ∧ _
  rw [turnL_len _ _ hk]
  exact h6
theorem turn_ok {b : Brd} {k : Nat} (he : errB b = 0) (hk : k < b.nums.length) : turnR b (k : Int) = (tbB b k, 0) := by
  unfold turnR
  rw [if_neg (by simp [he]), if_pos (ins_one.2 ⟨by omega, by omega⟩)]
  rfl
theorem bed_ok {b : Brd} {p : Pt} (he : errB b = 0) (hp : ptB p = true) : bedR b p = (bedB b p, onWire b p, 0) := by
  unfold bedR
  rw [if_neg (by simp [he]), if_pos hp]
theorem same_self (b : Brd) : sameB b b = true := by unfold sameB; simp
theorem calls_turn (v : BrdV) (b : Brd) (k : Nat) (w : World) (h : BrdAt w v b) (hn : BrdNil v b) (hs : SmallB b) (he : errB b = 0) (hk : k < b.nums.length) :
    Calls Try.prog 21 #[.agg (v.cells b), .int .i64 k] w fun e w' => ∃ v', e = .returned (.tuple #[.agg (v'.cells b), .int .i64 0]) ∧ BrdAt w' v' (tbB b k) ∧ BrdNil v' (tbB b k) ∧ Ext w w' := by
  refine (brd_Turn v b k w h hs hn.cap).mono ?_
  rintro e w' ⟨v', he', hB, hT, hx⟩
  rw [turn_ok he hk] at he' hB hT
  rw [tb_cells v' (by omega)] at he'
  exact ⟨v', he', hB, (hT rfl).nil hn (by omega), hx⟩
theorem calls_bed (v : BrdV) (b : Brd) (p : Pt) (w : World) (h : BrdAt w v b) (hs : SmallB b) (he : errB b = 0) (hp : ptB p = true) :
    Calls Try.prog 20 #[.agg (v.cells b), p.agg] w fun e w' => e = .returned (.tuple #[.int .i64 (bedB b p), .bool (onWire b p), .int .i64 0]) ∧ Ext w w' := by
  refine (brd_Bed v b p w h hs).mono ?_
  rw [bed_ok he hp]
  exact fun e w' h => h
theorem ptB_of_ok {p : Pt} (h : p.ok) : ptB p = true := ins_two.2 h
set_option maxRecDepth 100000 in
set_option maxHeartbeats 8000000 in
theorem law_BoardTurned (x : Mad) (ra la : Option Addr) (rc lc : Nat) (v0 v1 by_ : Int) (hf : x.fits) (h0 : 0 ≤ v0 ∧ v0 ≤ 65535) (h1 : 0 ≤ v1 ∧ v1 ≤ 65535) (hb : 0 ≤ by_ ∧ by_ ≤ 255) (w : World) (hr : CellsAt w .u8 ra x.rings) (hl : CellsAt w .u8 la x.lines) (hrl : x.rings.length ≤ maxLen) (hll : x.lines.length ≤ maxLen) :
    Calls Try.prog 5 #[.agg (x.cells ra la rc lc), .agg #[.int .u16 v0, .int .u16 v1], .int .u8 by_] w fun e w' => e = .returned (.bool true) ∧ Ext w w' := by
  have HM := Lib.hid (fun W (hx : Ext w W) => law_made x ra la rc lc W hf (hr.ext hx) (hl.ext hx) hrl hll)
  have HP := Lib.hid (fun W => law_point v0 v1 h0 h1 W)
  have HE := Lib.hid (made_ok x hf)
  have HSM := Lib.hid (made_small x)
  have HLI := Lib.hid (show linesB (madeB x).lines = true from made_lines x)
  have HNR := Lib.hid (show ∀ y ∈ (madeB x).nums, 1 ≤ y ∧ y ≤ 20 from numM_range x _)
  have HND := Lib.hid (show (madeB x).nums.Nodup from numsM_nodup x (lnM_spec x).2.1)
  have hnn : 3 ≤ (madeB x).nums.length ∧ (madeB x).nums.length ≤ 20 := by
    have := lnM_spec x
    have e : (madeB x).nums.length = lnM x := numsM_len x _
    rw [e]; exact ⟨this.1, this.2.1⟩
  generalize madeB x = b at *
  unfold Mad.cells at *
  obtain ⟨hb0, hb1⟩ := hb
  obtain ⟨hn3, hn20⟩ := hnn
  have HPO := Lib.hid (pnt_ok v0 v1)
  obtain ⟨px, hpx⟩ : ∃ c, v0 % 2501 - 1250 = c := ⟨_, rfl⟩
  obtain ⟨py, hpy⟩ : ∃ c, v1 % 2501 - 1250 = c := ⟨_, rfl⟩
  unfold pntM at HPO
  rw [hpx, hpy] at HPO HP
  clear hf h0 h1 hr hl hrl hll hpx hpy
  go_enter Try.func5, Try.ntmps5
  go_upto_region 1 with fail
  obtain ⟨w0, hw0⟩ : ∃ y, y = (w.alloc (.cells #[.slice ra x.rings.length rc, .slice la x.lines.length lc, .int .u8 x.first, .int .u8 x.wire] 45)).alloc (.cells #[.int .u16 v0, .int .u16 v1] 47) := ⟨_, rfl⟩
  rw [← hw0]
  have hx0 : Ext w w0 := by rw [hw0]; exact ((Ext.refl w).alloc _).alloc _
  have hbx : Blk w0 w.heap.size #[.slice ra x.rings.length rc, .slice la x.lines.length lc, .int .u8 x.first, .int .u8 x.wire] := by rw [hw0]; exact (Blk.new _ _ _).alloc _
  have hbv : Blk w0 (w.heap.size + 1) #[.int .u16 v0, .int .u16 v1] := by rw [hw0]; exact Blk.at _ (by simp)
  have x0 := hbx.cell 0 (v := .slice ra x.rings.length rc) rfl
  have x1 := hbx.cell 1 (v := .slice la x.lines.length lc) rfl
  have x2 := hbx.cell 2 (v := .int .u8 x.first) rfl
  have x3 := hbx.cell 3 (v := .int .u8 x.wire) rfl
  have y0 := hbv.cell 0 (v := .int .u16 v0) rfl
  have y1 := hbv.cell 1 (v := .int .u16 v1) rfl
  have hyl := hbv.lt
  have hwl : w.heap.size < w0.heap.size := by omega
  have hwn : ¬ (w0.heap.size ≤ w.heap.size) := by omega
  have hwn2 : ¬ (w0.heap.size ≤ w.heap.size + 1) := by omega
  have HX0 := Lib.hid hx0
  clear hw0 hx0 hbx hbv
  refine wp_region_calls (by kernel_rfl) [.no, .of (BoaS b) (boaW b) (boaW_ok b), .no, .no, .ptr, .ptr, .any, .any] w0.heap.size (fun (c : Nat × World) => c.2.heap.size)
    (fun (c : Nat × World) L u => [bif L 1 then Res.snap c else Res.none, bif L 1 then Res.pure (Ext w0 c.2 ∧ w0.heap.size ≤ c.1 ∧ BoaV b (u 1) c.1 c.2) else Res.none,
      bif L 4 then Res.blk (ptrAt (u 4)) (bif L 6 then #[aggAt 0 (u 1), aggAt 1 (u 1), aggAt 2 (u 1), aggAt 3 (u 1), aggAt 4 (u 1), aggAt 5 (u 1)] else #[.int .i64 0, .int .i64 0, .slice none 0 0, .slice none 0 0, .slice none 0 0, .int .i64 0]) else Res.none, bif L 5 then Res.blk (ptrAt (u 5)) (bif L 7 then #[.int .i64 px, .int .i64 py] else #[.int .i64 0, .int .i64 0]) else Res.none])
    (0, w0) (by kernel_rfl) (Nat.le_of_ble_eq_true rfl) (fun c L L' u hh => by simp only [hh 1 rfl, hh 4 rfl, hh 5 rfl, hh 6 rfl, hh 7 rfl]) (by simp) (fun _ => Frm.nones _ 4 w0) ?_
  intro T hT hne u hu
  obtain ⟨a1, a2, a3, a4, a5, a6, u1⟩ : BoaS b (u 1) := hu 1 rfl
  obtain ⟨k4, u4⟩ : ∃ k, u 4 = .pointer (some ⟨k, 0, none⟩) := hu 4 rfl
  obtain ⟨k5, u5⟩ : ∃ k, u 5 = .pointer (some ⟨k, 0, none⟩) := hu 5 rfl
  clear hu
  refine lx_next 1 (by rfl) (by decide) ?_
  dsimp only [List.take, List.drop]
  repeat (go_big_quiet_step (fail))
  refine wpQuiet_nil ?_
  refine lx_loud (by rfl) (by kernel_rfl) ?_ (fun K hK => ?_)
  · intro L w3 hL hd hcl hC hs
    obtain ⟨y, rfl⟩ := hC
    obtain ⟨c, hmc, hs⟩ := hs
    have hzs := y.size
    have h6 := hcl.off hL 40 6 (by kernel_rfl)
    simp only [hL, h6, cond_false] at hs
    have hX : Ext w0 y.world := Chg.to_ext (Ext.refl w0) y.chg (by rintro i ⟨_, h⟩; exact h)
    go_wp2_with fail
    refine (HM.out _ (HX0.out.trans hX)).mono ?_
    rintro e w' ⟨v', rfl, hB, hN, hfr, hx⟩
    have hsz' := hx.size
    have hV : BoaV b (.agg (v'.cells b)) y.world.heap.size w' := ⟨v', rfl, hB, hN, hfr⟩
    obtain ⟨d1, d2, d3, e1, e2, e3⟩ := v'
    have HV := Lib.hid hV
    clear hV hB hN hfr
    unfold BrdV.cells at *
    simp only at *
    go_wp2
    exact lik_call y (Nat.le_refl _) ⟨_, _, _, _, _, _, rfl⟩ hs 0 1 (by decide) rfl rfl hx (y.world.heap.size, w') (Nat.le_refl _) (φ := Ext w0 w' ∧ w0.heap.size ≤ y.world.heap.size ∧ BoaV b _ y.world.heap.size w') ⟨hX.trans hx, hzs, HV.out⟩ (by first | (simp [upd, updv, h6, hL]; done) | (simp [upd, updv, h6, hL]; rfl))
  rw [u1]
  go_simp
  with_reducible refine hK _ ?_
  clear hK K
  refine lx_next 2 (by rfl) (by decide) ?_
  dsimp only [List.take, List.drop]
  repeat (go_big_quiet_step (refine Calls.lat hT (HP.out _)))
  refine wpQuiet_nil ?_
  refine lx_loud (by rfl) (by kernel_rfl) ?_ (fun K hK => ?_)
  · intro L w3 hL hd hcl hC hs
    obtain ⟨y, rfl⟩ := hC
    obtain ⟨c, hmc, hs⟩ := hs
    have hzs := y.size
    have h6 := hcl.off hL 40 6 (by kernel_rfl)
    simp only [hL, h6, cond_false] at hs
    go_wp2
    exact lik_set y (Nat.le_refl _) ⟨_, rfl⟩ hs 2 (r' := Res.blk y.world.heap.size #[.int .i64 0, .int .i64 0, .slice none 0 0, .slice none 0 0, .slice none 0 0, .int .i64 0]) rfl (((Ext.refl y.world).alloc _).chg _) (Blk.new _ _ _) (fun k hk => .inr (by rw [show k = y.world.heap.size from hk]; simp)) c hmc (by first | (simp [upd, updv, h6, hL]; done) | (simp [upd, updv, h6, hL]; rfl))
  rw [u4]
  go_simp
  with_reducible refine hK _ ?_
  clear hK K
  refine lx_loud (by rfl) (by kernel_rfl) ?_ (fun K hK => ?_)
  · intro L w3 hL hd hcl hC hs
    obtain ⟨y, rfl⟩ := hC
    obtain ⟨c, hmc, hs⟩ := hs
    have hzs := y.size
    have h7 := hcl.off hL 40 7 (by kernel_rfl)
    simp only [hL, h7, cond_false] at hs
    go_wp2
    exact lik_set y (Nat.le_refl _) ⟨_, rfl⟩ hs 3 (r' := Res.blk y.world.heap.size #[.int .i64 0, .int .i64 0]) rfl (((Ext.refl y.world).alloc _).chg _) (Blk.new _ _ _) (fun k hk => .inr (by rw [show k = y.world.heap.size from hk]; simp)) c hmc (by first | (simp [upd, updv, h7, hL]; done) | (simp [upd, updv, h7, hL]; rfl))
  rw [u5]
  go_simp
  with_reducible refine hK _ ?_
  clear hK K
  refine lx_loud (by rfl) (by kernel_rfl) ?_ (fun K hK => ?_)
  · intro L w3 hL hd hcl hC hs
    obtain ⟨y, rfl⟩ := hC
    obtain ⟨c, hmc, hs⟩ := hs
    have hzs := y.size
    have h4 := hd 4 (by kernel_rfl)
    have h1 := hd 1 (by kernel_rfl)
    simp only [hL, h4, h1, cond_true, cond_false] at hs
    rw [u4] at hs
    have hb : Blk y.world k4 #[.int .i64 0, .int .i64 0, .slice none 0 0, .slice none 0 0, .slice none 0 0, .int .i64 0] := hs.get 2 rfl
    have hlt := hb.lt
    have q0 := hb.cell 0 (v := .int .i64 0) rfl
    have f0 := hb.frozen 0
    have q1 := hb.cell 1 (v := .int .i64 0) rfl
    have f1 := hb.frozen 1
    have q2 := hb.cell 2 (v := .slice none 0 0) rfl
    have f2 := hb.frozen 2
    have q3 := hb.cell 3 (v := .slice none 0 0) rfl
    have f3 := hb.frozen 3
    have q4 := hb.cell 4 (v := .slice none 0 0) rfl
    have f4 := hb.frozen 4
    have q5 := hb.cell 5 (v := .int .i64 0) rfl
    have f5 := hb.frozen 5
    go_wp2
    exact lik_set y (Nat.le_refl _) trivial hs 2 rfl (six_chg (fun k => k = k4) _ rfl _ _ _ _ _ _ ) (r' := Res.blk k4 #[.int .i64 b.eye, .int .i64 b.bull, .slice a1 b.rings.length a4, .slice a2 b.lines.length a5, .slice a3 b.nums.length a6, .int .i64 b.wire]) (six_set hb _ _ _ _ _ _ ) (fun _ hk => .inl hk) c hmc (by first | (simp [upd, updv, h4, h1, hL, u4, u1, aggAt, ptrAt]; done) | (simp [upd, updv, h4, h1, hL, u4, u1, aggAt, ptrAt]; rfl))
  go_simp
  with_reducible refine hK _ ?_
  clear hK K
  refine lx_loud (by rfl) (by kernel_rfl) ?_ (fun K hK => ?_)
  · intro L w3 hL hd hcl hC hs
    obtain ⟨y, rfl⟩ := hC
    obtain ⟨c, hmc, hs⟩ := hs
    have hzs := y.size
    have h5 := hd 5 (by kernel_rfl)
    simp only [hL, h5, cond_true, cond_false] at hs
    rw [u5] at hs
    have hb : Blk y.world k5 #[.int .i64 0, .int .i64 0] := hs.get 3 rfl
    have hlt := hb.lt
    have q0 := hb.cell 0 (v := .int .i64 0) rfl
    have f0 := hb.frozen 0
    have q1 := hb.cell 1 (v := .int .i64 0) rfl
    have f1 := hb.frozen 1
    go_wp2
    exact lik_set y (Nat.le_refl _) trivial hs 3 rfl (two_chg (fun k => k = k5) _ rfl _ _ ) (r' := Res.blk k5 #[.int .i64 px, .int .i64 py]) (two_set hb _ _ ) (fun _ hk => .inl hk) c hmc (by first | (simp [upd, updv, h5, hL, u5, aggAt, ptrAt]; done) | (simp [upd, updv, h5, hL, u5, aggAt, ptrAt]; rfl))
  go_simp
  with_reducible refine hK _ ?_
  clear hK K
  refine lx_nil ?_
  intro y hs
  obtain ⟨c, hmc, hs⟩ := hs
  rw [u1, u4, u5] at hs
  have hX : Ext w0 y.world := Chg.to_ext (Ext.refl w0) y.chg (by rintro i ⟨_, h⟩; exact h)
  have hp1 : Ext w0 c.2 ∧ w0.heap.size ≤ c.1 ∧ BoaV b (.agg #[.int .i64 b.eye, .int .i64 b.bull, .slice a1 b.rings.length a4, .slice a2 b.lines.length a5, .slice a3 b.nums.length a6, .int .i64 b.wire]) c.1 c.2 := hs.get 1 rfl
  have hr1 := hp1.2.2.chg (snap_chg (hs.get 0 rfl) hp1.1 hX hmc) (fun k hk => hk.2)
  have hb4 : Blk y.world k4 #[.int .i64 b.eye, .int .i64 b.bull, .slice a1 b.rings.length a4, .slice a2 b.lines.length a5, .slice a3 b.nums.length a6, .int .i64 b.wire] := hs.get 2 rfl
  have hb5 : Blk y.world k5 #[.int .i64 px, .int .i64 py] := hs.get 3 rfl
  have hk4 := hs.lt 2 rfl k4 rfl
  have hk5 := hs.lt 3 rfl k5 rfl
  clear hs hp1 hmc hT hne u1 u4 u5
  have hXw := HX0.out.trans hX
  generalize y.world = w1 at *
  obtain ⟨v', e, hB, hN, -⟩ := hr1
  obtain ⟨d1, d2, d3, e1, e2, e3⟩ := v'
  unfold BrdV.cells at e
  simp only [Value.agg.injEq, Array.mk.injEq, List.cons.injEq, Value.slice.injEq, true_and, and_true] at e
  obtain ⟨⟨rfl, rfl⟩, ⟨rfl, rfl⟩, rfl, rfl⟩ := e
  obtain ⟨j, hj⟩ : ∃ j : Nat, by_.tmod b.nums.length = j := ⟨(by_.tmod b.nums.length).toNat, by rw [Int.toNat_of_nonneg (Int.tmod_nonneg _ hb0)]⟩
  have hjl : j < b.nums.length := by have := Int.tmod_lt_of_pos by_ (b := (b.nums.length : Int)) (by omega); omega
  have hnE : ¬ ((b.nums.length : Int) = 0) := by omega
  have HB := Lib.hid hB
  have HN := Lib.hid hN
  have HXw := Lib.hid hXw
  have HB4 := Lib.hid hb4
  have HB5 := Lib.hid hb5
  have m0 := hb4.cell 0 (v := .int .i64 b.eye) rfl
  have m1 := hb4.cell 1 (v := .int .i64 b.bull) rfl
  have m2 := hb4.cell 2 (v := .slice a1 b.rings.length a4) rfl
  have m3 := hb4.cell 3 (v := .slice a2 b.lines.length a5) rfl
  have m4 := hb4.cell 4 (v := .slice a3 b.nums.length a6) rfl
  have m5 := hb4.cell 5 (v := .int .i64 b.wire) rfl
  have hml := hb4.lt
  clear hB hN hXw hb4 hb5 hX
  go_wp2_with fail
  refine (law_own ⟨a1, a2, a3, a4, a5, a6⟩ b _ HB.out HN.out HSM.out).mono ?_
  rintro e w2 ⟨v2, rfl, hB2, hN2, -, hx2⟩
  have HB2 := Lib.hid hB2
  have HN2 := Lib.hid hN2
  have HX2 := Lib.hid hx2
  obtain ⟨r1, r2, r3, r4, r5, r6⟩ := v2
  unfold BrdV.cells
  clear hB2 hN2 hx2
  go_wp2_with fail
  refine (calls_turn ⟨r1, r2, r3, r4, r5, r6⟩ b j _ HB2.out HN2.out HSM.out HE.out hjl).mono ?_
  rintro e w3 ⟨v3, rfl, hB3, hN3, hx3⟩
  have HB3 := Lib.hid hB3
  have HN3 := Lib.hid hN3
  have hx13 := HX2.out.trans hx3
  obtain ⟨t1, t2, t3, t4, t5, t6⟩ := v3
  unfold BrdV.cells
  have HSMT := Lib.hid (tb_small (k := j) (by omega) HSM.out)
  have HET := Lib.hid (tb_err (k := j) (by omega) HE.out)
  have HBK := Lib.hid (show tbB (tbB b j) ((b.nums.length - j) % b.nums.length) = b by
    have := turn_back b.nums j hjl
    unfold tbB
    simp only [] at this ⊢
    rw [this])
  have HBT := Lib.hid (bed_turn (errB_good HSM.out HE.out) HLI.out hjl ⟨px, py⟩)
  have HTL := Lib.hid (show (tbB b j).nums.length = b.nums.length from turnL_len _ _ (by omega))
  have HTC := Lib.hid (fun v : BrdV => tb_cells v (b := b) (k := j) (by omega))
  have HWI := Lib.hid (show onWire (tbB b j) ⟨px, py⟩ = onWire b ⟨px, py⟩ from rfl)
  generalize tbB b j = tb at *
  have HX13 := Lib.hid hx13
  have HB4' := Lib.hid (HB4.out.ext hx13)
  have hb4 := HB4'.out
  have m0 := hb4.cell 0 (v := .int .i64 b.eye) rfl
  have m1 := hb4.cell 1 (v := .int .i64 b.bull) rfl
  have m2 := hb4.cell 2 (v := .slice a1 b.rings.length a4) rfl
  have m3 := hb4.cell 3 (v := .slice a2 b.lines.length a5) rfl
  have m4 := hb4.cell 4 (v := .slice a3 b.nums.length a6) rfl
  have m5 := hb4.cell 5 (v := .int .i64 b.wire) rfl
  have hml := hb4.lt
  have hb5 := HB5.out.ext hx13
  have n0 := hb5.cell 0 (v := .int .i64 px) rfl
  have n1 := hb5.cell 1 (v := .int .i64 py) rfl
  have hnl := hb5.lt
  have HB1' := Lib.hid (HB.out.ext hx13)
  clear hB3 hN3 hx3 hx13 hb4 hb5
  go_wp2_with fail
  have hpt := ptB_of_ok HPO.out
  have HBB := Lib.hid (HB1'.out.ext ((Ext.refl w3).alloc (.cells #[.int .i64 b.eye, .int .i64 b.bull, .slice t1 b.rings.length t4, .slice t2 b.lines.length t5, .slice t3 b.nums.length t6, .int .i64 b.wire] 26)))
  have HTT := Lib.hid (Blk.new w3 #[.int .i64 b.eye, .int .i64 b.bull, .slice t1 b.rings.length t4, .slice t2 b.lines.length t5, .slice t3 b.nums.length t6, .int .i64 b.wire] 26)
  obtain ⟨W, hW⟩ : ∃ y, y = w3.alloc (.cells #[.int .i64 b.eye, .int .i64 b.bull, .slice t1 b.rings.length t4, .slice t2 b.lines.length t5, .slice t3 b.nums.length t6, .int .i64 b.wire] 26) := ⟨_, rfl⟩
  have hx3W : Ext w3 W := by rw [hW]; exact (Ext.refl w3).alloc _
  rw [← hW] at HBB HTT
  rw [← hW]
  obtain ⟨A, hA⟩ : ∃ c, bedB b ⟨px, py⟩ = c := ⟨_, rfl⟩
  obtain ⟨C, hC⟩ : ∃ c, bedB tb ⟨px, py⟩ = c := ⟨_, rfl⟩
  obtain ⟨wi, hwi⟩ : ∃ c, onWire b ⟨px, py⟩ = c := ⟨_, rfl⟩
  have HBD := Lib.hid (fun v W h => calls_bed v b ⟨px, py⟩ W h HSM.out HE.out hpt)
  have HBD2 := Lib.hid (fun v W h => calls_bed v tb ⟨px, py⟩ W h HSMT.out HET.out hpt)
  have HOT := Lib.hid (fun (v : BrdV) W (h : BrdAt W v tb) hn => show Calls Try.prog 15 #[.agg (v.cells b)] W fun e w' => ∃ v' : BrdV, e = .returned (.agg (v'.cells b)) ∧ BrdAt w' v' tb ∧ BrdNil v' tb ∧ Fre v' W.heap.size ∧ Ext W w' from by
    have h1 := law_own v tb W h hn HSMT.out
    rw [HTC.out] at h1
    refine h1.mono ?_
    rintro e w' ⟨v', e1, h2⟩
    rw [HTC.out] at e1
    exact ⟨v', e1, h2⟩)
  have HBT' := HBT.out
  rw [hA, hC] at HBT'
  rw [hA, hwi] at HBD
  rw [hC, HWI.out, hwi] at HBD2
  have HBT2 := Lib.hid HBT'
  have HX3W := Lib.hid (HX13.out.trans hx3W)
  have HB4W := Lib.hid (HB4'.out.ext hx3W)
  have HB5W := Lib.hid (HB5.out.ext HX3W.out)
  have HTB := Lib.hid (HB3.out.ext hx3W)
  have hlt := HTT.out.lt
  clear hA hC hwi HBT HBT' hpt HWI m0 m1 m2 m3 m4 m5 n0 n1 hW hx3W hml hnl
  have m0 : ∀ y : Lat NoX W, y.world.cell? ⟨k4, 0, none⟩ = some (.int .i64 b.eye) := fun y => (HB4W.out.ext (Lat.ext0 y)).cell 0 rfl
  have m1 : ∀ y : Lat NoX W, y.world.cell? ⟨k4, 1, none⟩ = some (.int .i64 b.bull) := fun y => (HB4W.out.ext (Lat.ext0 y)).cell 1 rfl
  have m2 : ∀ y : Lat NoX W, y.world.cell? ⟨k4, 2, none⟩ = some (.slice a1 b.rings.length a4) := fun y => (HB4W.out.ext (Lat.ext0 y)).cell 2 rfl
  have m3 : ∀ y : Lat NoX W, y.world.cell? ⟨k4, 3, none⟩ = some (.slice a2 b.lines.length a5) := fun y => (HB4W.out.ext (Lat.ext0 y)).cell 3 rfl
  have m4 : ∀ y : Lat NoX W, y.world.cell? ⟨k4, 4, none⟩ = some (.slice a3 b.nums.length a6) := fun y => (HB4W.out.ext (Lat.ext0 y)).cell 4 rfl
  have m5 : ∀ y : Lat NoX W, y.world.cell? ⟨k4, 5, none⟩ = some (.int .i64 b.wire) := fun y => (HB4W.out.ext (Lat.ext0 y)).cell 5 rfl
  have n0 : ∀ y : Lat NoX W, y.world.cell? ⟨k5, 0, none⟩ = some (.int .i64 px) := fun y => (HB5W.out.ext (Lat.ext0 y)).cell 0 rfl
  have n1 : ∀ y : Lat NoX W, y.world.cell? ⟨k5, 1, none⟩ = some (.int .i64 py) := fun y => (HB5W.out.ext (Lat.ext0 y)).cell 1 rfl
  refine wp_region_ext (by kernel_rfl) [.no, .boa b b, .no, .val (.tuple #[.int .i64 A, .bool wi, .int .i64 0])] (by kernel_rfl) (Nat.le_of_ble_eq_true rfl) ?_
  intro T hT hne u hu
  obtain ⟨p1, p2, p3, p4, p5, p6, u1⟩ : BoaS b (u 1) := hu 1 rfl
  have u3 : u 3 = .tuple #[.int .i64 A, .bool wi, .int .i64 0] := hu 3 rfl
  clear hu
  refine lx_next 1 (by rfl) (by decide) ?_
  dsimp only [List.take, List.drop]
  repeat (go_big_quiet_step (fail))
  refine wpQuiet_nil ?_
  refine lx_loud (by rfl) (by kernel_rfl) ?_ (fun K hK => ?_)
  · intro L w3 hL hd hcl hC hs
    obtain ⟨y, rfl⟩ := hC
    have hxy := Lat.ext0 y

    go_wp2_with fail
    refine (law_own ⟨a1, a2, a3, a4, a5, a6⟩ b _ (HBB.out.ext hxy) HN.out HSM.out).mono ?_
    rintro e w' ⟨v', rfl, hB', hN', -, hx⟩
    have HRK := Lib.hid (rik_call (i := 1) y hs ⟨_, _, _, _, _, _, rfl⟩ hx ⟨_, rfl, hB', hN'⟩)
    clear hs
    go_wp2
    exact HRK.out
  rw [u1]
  go_simp
  with_reducible refine hK _ ?_
  clear hK K
  refine lx_next 1 (by rfl) (by decide) ?_
  dsimp only [List.take, List.drop]
  repeat (go_big_quiet_step (fail))
  refine wpQuiet_nil ?_
  refine lx_loud (by rfl) (by kernel_rfl) ?_ (fun K hK => ?_)
  · intro L w3 hL hd hcl hC hs
    obtain ⟨y, rfl⟩ := hC
    have hxy := Lat.ext0 y
    have h1 := hs 1 rfl (hd 1 (by kernel_rfl))
    rw [u1] at h1
    obtain ⟨hB1, hN1⟩ := BoaT.at h1
    go_wp2_with fail
    refine (HBD.out ⟨p1, p2, p3, p4, p5, p6⟩ _ hB1).mono ?_
    rintro e w' ⟨rfl, hx⟩
    have HRK := Lib.hid (rik_call (i := 3) y hs rfl hx trivial)
    clear hs
    go_wp2
    exact HRK.out
  rw [u3]
  go_simp
  with_reducible refine hK _ ?_
  clear hK K
  refine lx_next 7 (by rfl) (by decide) ?_
  dsimp only [List.take, List.drop]
  repeat (go_big_quiet_step (fail))
  refine wpQuiet_nil ?_
  refine lx_nil ?_
  intro y hs
  have hxy := Lat.ext0 y
  have HX5 := Lib.hid hxy
  generalize y.world = W5 at *
  clear hs hxy m0 m1 m2 m3 m4 m5 n0 n1 hT hne u1 u3
  have HB5W5 := Lib.hid (HB5W.out.ext HX5.out)
  have HB4W5 := Lib.hid (HB4W.out.ext HX5.out)
  have HT5 := Lib.hid (HTT.out.ext HX5.out)
  have HTB5 := Lib.hid (HTB.out.ext HX5.out)
  go_upto_region 6 with fail
  have m0 : ∀ y : Lat NoX W5, y.world.cell? ⟨w3.heap.size, 0, none⟩ = some (.int .i64 b.eye) := fun y => (HT5.out.ext (Lat.ext0 y)).cell 0 rfl
  have m1 : ∀ y : Lat NoX W5, y.world.cell? ⟨w3.heap.size, 1, none⟩ = some (.int .i64 b.bull) := fun y => (HT5.out.ext (Lat.ext0 y)).cell 1 rfl
  have m2 : ∀ y : Lat NoX W5, y.world.cell? ⟨w3.heap.size, 2, none⟩ = some (.slice t1 b.rings.length t4) := fun y => (HT5.out.ext (Lat.ext0 y)).cell 2 rfl
  have m3 : ∀ y : Lat NoX W5, y.world.cell? ⟨w3.heap.size, 3, none⟩ = some (.slice t2 b.lines.length t5) := fun y => (HT5.out.ext (Lat.ext0 y)).cell 3 rfl
  have m4 : ∀ y : Lat NoX W5, y.world.cell? ⟨w3.heap.size, 4, none⟩ = some (.slice t3 b.nums.length t6) := fun y => (HT5.out.ext (Lat.ext0 y)).cell 4 rfl
  have m5 : ∀ y : Lat NoX W5, y.world.cell? ⟨w3.heap.size, 5, none⟩ = some (.int .i64 b.wire) := fun y => (HT5.out.ext (Lat.ext0 y)).cell 5 rfl
  have n0 : ∀ y : Lat NoX W5, y.world.cell? ⟨k5, 0, none⟩ = some (.int .i64 px) := fun y => (HB5W5.out.ext (Lat.ext0 y)).cell 0 rfl
  have n1 : ∀ y : Lat NoX W5, y.world.cell? ⟨k5, 1, none⟩ = some (.int .i64 py) := fun y => (HB5W5.out.ext (Lat.ext0 y)).cell 1 rfl
  refine wp_region_ext (by kernel_rfl) [.no, .boa b tb, .no, .val (.tuple #[.int .i64 C, .bool wi, .int .i64 0])] (by kernel_rfl) (Nat.le_of_ble_eq_true rfl) ?_
  intro T hT hne u hu
  obtain ⟨p1, p2, p3, p4, p5, p6, u1⟩ : BoaS b (u 1) := hu 1 rfl
  have u3 : u 3 = .tuple #[.int .i64 C, .bool wi, .int .i64 0] := hu 3 rfl
  clear hu
  refine lx_next 1 (by rfl) (by decide) ?_
  dsimp only [List.take, List.drop]
  repeat (go_big_quiet_step (fail))
  refine wpQuiet_nil ?_
  refine lx_loud (by rfl) (by kernel_rfl) ?_ (fun K hK => ?_)
  · intro L w3 hL hd hcl hC hs
    obtain ⟨y, rfl⟩ := hC
    have hxy := Lat.ext0 y

    go_wp2_with fail
    refine (HOT.out ⟨t1, t2, t3, t4, t5, t6⟩ _ (HTB5.out.ext hxy) HN3.out).mono ?_
    rintro e w' ⟨v', rfl, hB', hN', -, hx⟩
    have HRK := Lib.hid (rik_call (i := 1) y hs ⟨_, _, _, _, _, _, rfl⟩ hx ⟨_, rfl, hB', hN'⟩)
    clear hs
    go_wp2
    exact HRK.out
  rw [u1]
  go_simp
  with_reducible refine hK _ ?_
  clear hK K
  refine lx_next 1 (by rfl) (by decide) ?_
  dsimp only [List.take, List.drop]
  repeat (go_big_quiet_step (fail))
  refine wpQuiet_nil ?_
  refine lx_loud (by rfl) (by kernel_rfl) ?_ (fun K hK => ?_)
  · intro L w3 hL hd hcl hC hs
    obtain ⟨y, rfl⟩ := hC
    have hxy := Lat.ext0 y
    have h1 := hs 1 rfl (hd 1 (by kernel_rfl))
    rw [u1] at h1
    obtain ⟨hB1, hN1⟩ := BoaT.at h1
    have hcc := HBD2.out ⟨p1, p2, p3, p4, p5, p6⟩ _ hB1
    rw [HTC.out] at hcc
    have HCC := Lib.hid hcc
    clear hcc
    go_wp2_with fail
    refine (HCC.out).mono ?_
    rintro e w' ⟨rfl, hx⟩
    have HRK := Lib.hid (rik_call (i := 3) y hs rfl hx trivial)
    clear hs
    go_wp2
    exact HRK.out
  rw [u3]
  go_simp
  with_reducible refine hK _ ?_
  clear hK K
  refine lx_next 7 (by rfl) (by decide) ?_
  dsimp only [List.take, List.drop]
  repeat (go_big_quiet_step (fail))
  refine wpQuiet_nil ?_
  refine lx_nil ?_
  intro y hs
  have hxy := Lat.ext0 y
  have HX6 := Lib.hid (HX5.out.trans hxy)
  generalize y.world = W6 at *
  clear hs hxy m0 m1 m2 m3 m4 m5 n0 n1 hT hne u1 u3
  go_upto_region 7 with fail
  have HTR2 := Lib.hid (show tb.rings = b.rings by rw [← HBK.out]; rfl)
  have HTL2 := Lib.hid (show tb.lines = b.lines by rw [← HBK.out]; rfl)
  obtain ⟨kk, hkk⟩ : ∃ kk : Nat, (b.nums.length - j) % b.nums.length = kk := ⟨_, rfl⟩
  have hkkl : kk < b.nums.length := by rw [← hkk]; exact Nat.mod_lt _ (by omega)
  have hkm : ((b.nums.length : Int) - (j : Int)).tmod (b.nums.length : Int) = (kk : Int) := by
    rw [show ((b.nums.length : Int) - (j : Int)) = ((b.nums.length - j : Nat) : Int) by omega, ← hkk]; rfl
  have HTR := Lib.hid (fun (v : BrdV) W (h : BrdAt W v tb) (hn : BrdNil v tb) => show Calls Try.prog 21 #[.agg (v.cells b), .int .i64 kk] W fun e w' => ∃ v' : BrdV, e = .returned (.tuple #[.agg (v'.cells b), .int .i64 0]) ∧ (TurV v v' b.nums.length W.heap.size ∧ CellsAt w' .i64 v'.na b.nums) ∧ Ext W w' from by
    have h1 := brd_Turn v tb kk W h HSMT.out hn.cap
    rw [turn_ok HET.out (by rw [HTL.out]; exact hkkl), ← hkk, HBK.out, HTC.out, HTL.out, hkk] at h1
    refine h1.mono ?_
    rintro e w' ⟨v', e1, hB', hT', hx⟩
    exact ⟨v', e1, ⟨hT' rfl, hB'.nums⟩, hx⟩)
  clear hkk
  rcases HBT2.out with ⟨rfl, hc⟩ | ⟨f, s, ⟨hf1, hf4⟩, hs, hA, hC⟩
  · have HT6 := Lib.hid (HTT.out.ext HX6.out)
    have g0 := HT6.out.cell 0 (v := .int .i64 b.eye) rfl
    have g1 := HT6.out.cell 1 (v := .int .i64 b.bull) rfl
    have g2 := HT6.out.cell 2 (v := .slice t1 b.rings.length t4) rfl
    have g3 := HT6.out.cell 3 (v := .slice t2 b.lines.length t5) rfl
    have g4 := HT6.out.cell 4 (v := .slice t3 b.nums.length t6) rfl
    have g5 := HT6.out.cell 5 (v := .int .i64 b.wire) rfl
    have gl := HT6.out.lt
    have hgn : ¬ (W6.heap.size ≤ w3.heap.size) := by omega
    have HTB6 := Lib.hid (HTB.out.ext HX6.out)
    rcases hc with rfl | rfl | rfl
    · go_upto_region 17 with fail
      refine wp_region_calls (by kernel_rfl) [.no, .of (BoaS b) (boaW b) (boaW_ok b), .no, .no, .no, .no, .no, .of (TrnS b) (trnW b) (trnW_ok b), .no, .no, .no, .ptr, .any] W6.heap.size (fun (c : (Nat × World) × (Nat × World)) => max c.1.2.heap.size c.2.2.heap.size)
        (fun (c : (Nat × World) × (Nat × World)) L u => [bif L 1 then Res.snap c.1 else Res.none, bif L 1 then Res.pure (Ext W6 c.1.2 ∧ W6.heap.size ≤ c.1.1 ∧ BoaF b tb (u 1) c.1.1 c.1.2) else Res.none, bif L 7 then Res.snap c.2 else Res.none, bif L 7 then Res.pure (Ext W6 c.2.2 ∧ W6.heap.size ≤ c.2.1 ∧ TrnF b (u 1) (u 7) c.2.1 c.2.2) else Res.none,
          bif L 11 then Res.blk (ptrAt (u 11)) (bif L 12 then #[aggAt 0 (aggAt 0 (u 7)), aggAt 1 (aggAt 0 (u 7)), aggAt 2 (aggAt 0 (u 7)), aggAt 3 (aggAt 0 (u 7)), aggAt 4 (aggAt 0 (u 7)), aggAt 5 (aggAt 0 (u 7))] else #[.int .i64 0, .int .i64 0, .slice none 0 0, .slice none 0 0, .slice none 0 0, .int .i64 0]) else Res.none])
        ((0, W6), (0, W6)) (by kernel_rfl) (Nat.le_of_ble_eq_true rfl) (fun c L L' u hh => by simp only [hh 1 rfl, hh 7 rfl, hh 11 rfl, hh 12 rfl]) (by simp) (fun _ => Frm.nones _ 5 W6) ?_
      intro T hT hne u hu
      obtain ⟨p1, p2, p3, p4, p5, p6, u1⟩ : BoaS b (u 1) := hu 1 rfl
      obtain ⟨s1, s2, s3, s4, s5, s6, u7⟩ : TrnS b (u 7) := hu 7 rfl
      obtain ⟨k11, u11⟩ : ∃ k, u 11 = .pointer (some ⟨k, 0, none⟩) := hu 11 rfl
      clear hu
      refine lx_next 1 (by rfl) (by decide) ?_
      dsimp only [List.take, List.drop]
      repeat (go_big_quiet_step (fail))
      refine wpQuiet_nil ?_
      refine lx_loud (by rfl) (by kernel_rfl) ?_ (fun K hK => ?_)
      · intro L w3 hL hd hcl hC hs
        obtain ⟨y, rfl⟩ := hC
        obtain ⟨c, hmc, hs⟩ := hs
        have hzs := y.size
        have h7 := hcl.off hL 40 7 (by kernel_rfl)
        have h12 := hcl.off hL 40 12 (by kernel_rfl)
        simp only [hL, h7, h12, cond_false] at hs
        have hX : Ext W6 y.world := Chg.to_ext (Ext.refl W6) y.chg (by rintro i ⟨_, h⟩; exact h)
        go_wp2_with fail
        refine (HOT.out ⟨t1, t2, t3, t4, t5, t6⟩ _ (HTB6.out.ext hX) HN3.out).mono ?_
        rintro e w' ⟨v', rfl, hB', hN', hF', hx⟩
        have hsz' := hx.size
        have HV := Lib.hid (show BoaF b tb _ _ _ from ⟨v', rfl, hB', hN', hF'⟩)
        clear hB' hN' hF'
        unfold BrdV.cells at *
        go_wp2
        exact lik_call y (Nat.le_refl _) ⟨_, _, _, _, _, _, rfl⟩ hs 0 1 (by decide) rfl rfl hx ((y.world.heap.size, w'), c.2) (by show max w'.heap.size c.2.2.heap.size ≤ w'.heap.size; have hmc2 : max c.1.2.heap.size c.2.2.heap.size ≤ y.world.heap.size := hmc; omega) (φ := Ext W6 w' ∧ W6.heap.size ≤ y.world.heap.size ∧ BoaF b tb _ y.world.heap.size w') ⟨hX.trans hx, hzs, HV.out⟩ (by first | (simp [upd, updv, h7, h12, hL]; done) | (simp [upd, updv, h7, h12, hL]; rfl))
      rw [u1]
      go_simp
      with_reducible refine hK _ ?_
      clear hK K
      refine lx_next 5 (by rfl) (by decide) ?_
      dsimp only [List.take, List.drop]
      repeat (go_big_quiet_step (fail))
      refine wpQuiet_nil ?_
      refine lx_loud (by rfl) (by kernel_rfl) ?_ (fun K hK => ?_)
      · intro L w3 hL hd hcl hC hs
        obtain ⟨y, rfl⟩ := hC
        obtain ⟨c, hmc, hs⟩ := hs
        have hzs := y.size
        have h12 := hcl.off hL 40 12 (by kernel_rfl)
        have h1 := hd 1 (by kernel_rfl)
        simp only [hL, h12, h1, cond_true, cond_false] at hs
        have hX : Ext W6 y.world := Chg.to_ext (Ext.refl W6) y.chg (by rintro i ⟨_, h⟩; exact h)
        rw [u1] at hs
        have hmc2 : max c.1.2.heap.size c.2.2.heap.size ≤ y.world.heap.size := hmc
        have hp1 : Ext W6 c.1.2 ∧ W6.heap.size ≤ c.1.1 ∧ BoaF b tb (.agg #[.int .i64 b.eye, .int .i64 b.bull, .slice p1 b.rings.length p4, .slice p2 b.lines.length p5, .slice p3 b.nums.length p6, .int .i64 b.wire]) c.1.1 c.1.2 := hs.get 1 rfl
        have hbf := hp1.2.2.chg (snap_chg (hs.get 0 rfl) hp1.1 hX (by omega)) (fun k hk => hk.2)
        obtain ⟨hB7, hN7⟩ := BoaT.at (b := b) (c := tb) (let ⟨v', e, h1, h2, _⟩ := hbf; ⟨v', e, h1, h2⟩)
        have HC7 := Lib.hid (HTR.out ⟨p1, p2, p3, p4, p5, p6⟩ _ hB7 hN7)
        have HS7 := Lib.hid hs
        clear hp1 hbf hB7 hN7 hs
        go_wp2_with fail
        refine HC7.out.mono ?_
        rintro e w' ⟨v', rfl, hT', hx⟩
        have hsz' := hx.size
        have HV := Lib.hid (show TrnF b (.agg #[.int .i64 b.eye, .int .i64 b.bull, .slice p1 b.rings.length p4, .slice p2 b.lines.length p5, .slice p3 b.nums.length p6, .int .i64 b.wire]) (.tuple #[.agg (v'.cells b), .int .i64 0]) y.world.heap.size w' from ⟨⟨p1, p2, p3, p4, p5, p6⟩, v', rfl, rfl, hT'⟩)
        clear hT'
        unfold BrdV.cells at *
        go_wp2
        exact lik_call y (Nat.le_refl _) ⟨_, _, _, _, _, _, rfl⟩ HS7.out 2 3 (by decide) rfl rfl hx (c.1, (y.world.heap.size, w')) (by show max c.1.2.heap.size w'.heap.size ≤ w'.heap.size; omega) (φ := Ext W6 w' ∧ W6.heap.size ≤ y.world.heap.size ∧ TrnF b _ _ y.world.heap.size w') ⟨hX.trans hx, hzs, HV.out⟩ (by first | (simp [upd, updv, h1, h12, hL, u1]; done) | (simp [upd, updv, h1, h12, hL, u1]; rfl))
      rw [u7]
      go_simp
      with_reducible refine hK _ ?_
      clear hK K
      refine lx_next 3 (by rfl) (by decide) ?_
      dsimp only [List.take, List.drop]
      repeat (go_big_quiet_step (fail))
      refine wpQuiet_nil ?_
      refine lx_loud (by rfl) (by kernel_rfl) ?_ (fun K hK => ?_)
      · intro L w3 hL hd hcl hC hs
        obtain ⟨y, rfl⟩ := hC
        obtain ⟨c, hmc, hs⟩ := hs
        have hzs := y.size
        have h12 := hcl.off hL 40 12 (by kernel_rfl)
        simp only [hL, h12, cond_false] at hs
        go_wp2
        exact lik_set y (Nat.le_refl _) ⟨_, rfl⟩ hs 4 (r' := Res.blk y.world.heap.size #[.int .i64 0, .int .i64 0, .slice none 0 0, .slice none 0 0, .slice none 0 0, .int .i64 0]) rfl (((Ext.refl y.world).alloc _).chg _) (Blk.new _ _ _) (fun k hk => .inr (by rw [show k = y.world.heap.size from hk]; simp)) c hmc (by first | (simp [upd, updv, h12, hL]; done) | (simp [upd, updv, h12, hL]; rfl))
      rw [u11]
      go_simp
      with_reducible refine hK _ ?_
      clear hK K
      refine lx_loud (by rfl) (by kernel_rfl) ?_ (fun K hK => ?_)
      · intro L w3 hL hd hcl hC hs
        obtain ⟨y, rfl⟩ := hC
        obtain ⟨c, hmc, hs⟩ := hs
        have hzs := y.size
        have h7 := hcl.on 40 (hd 9 (by kernel_rfl)) (j := 9) (i := 7) (by kernel_rfl)
        have h11 := hd 11 (by kernel_rfl)
        simp only [hL, h11, h7, cond_true, cond_false] at hs
        rw [u11] at hs
        have hb : Blk y.world k11 #[.int .i64 0, .int .i64 0, .slice none 0 0, .slice none 0 0, .slice none 0 0, .int .i64 0] := hs.get 4 rfl
        have hlt := hb.lt
        have q0 := hb.cell 0 (v := .int .i64 0) rfl
        have f0 := hb.frozen 0
        have q1 := hb.cell 1 (v := .int .i64 0) rfl
        have f1 := hb.frozen 1
        have q2 := hb.cell 2 (v := .slice none 0 0) rfl
        have f2 := hb.frozen 2
        have q3 := hb.cell 3 (v := .slice none 0 0) rfl
        have f3 := hb.frozen 3
        have q4 := hb.cell 4 (v := .slice none 0 0) rfl
        have f4 := hb.frozen 4
        have q5 := hb.cell 5 (v := .int .i64 0) rfl
        have f5 := hb.frozen 5
        go_wp2
        exact lik_set y (Nat.le_refl _) trivial hs 4 rfl (six_chg (fun k => k = k11) _ rfl _ _ _ _ _ _) (r' := Res.blk k11 #[.int .i64 b.eye, .int .i64 b.bull, .slice s1 b.rings.length s4, .slice s2 b.lines.length s5, .slice s3 b.nums.length s6, .int .i64 b.wire]) (six_set hb _ _ _ _ _ _) (fun _ hk => .inl hk) c hmc (by first | (simp [upd, updv, h7, h11, hL, u7, u11, aggAt, ptrAt]; done) | (simp [upd, updv, h7, h11, hL, u7, u11, aggAt, ptrAt]; rfl))
      go_simp
      with_reducible refine hK _ ?_
      clear hK K
      refine lx_next 1 (by rfl) (by decide) ?_
      dsimp only [List.take, List.drop]
      repeat (go_big_quiet_step (fail))
      refine wpQuiet_nil ?_
      refine lx_nil ?_
      intro y hs
      obtain ⟨c, hmc, hs⟩ := hs
      rw [u1, u7, u11] at hs
      have hmc2 : max c.1.2.heap.size c.2.2.heap.size ≤ y.world.heap.size := hmc
      have hX : Ext W6 y.world := Chg.to_ext (Ext.refl W6) y.chg (by rintro i ⟨_, h⟩; exact h)
      have hp1 : Ext W6 c.1.2 ∧ W6.heap.size ≤ c.1.1 ∧ BoaF b tb (.agg #[.int .i64 b.eye, .int .i64 b.bull, .slice p1 b.rings.length p4, .slice p2 b.lines.length p5, .slice p3 b.nums.length p6, .int .i64 b.wire]) c.1.1 c.1.2 := hs.get 1 rfl
      have hp7 : Ext W6 c.2.2 ∧ W6.heap.size ≤ c.2.1 ∧ TrnF b (.agg #[.int .i64 b.eye, .int .i64 b.bull, .slice p1 b.rings.length p4, .slice p2 b.lines.length p5, .slice p3 b.nums.length p6, .int .i64 b.wire]) (.tuple #[.agg #[.int .i64 b.eye, .int .i64 b.bull, .slice s1 b.rings.length s4, .slice s2 b.lines.length s5, .slice s3 b.nums.length s6, .int .i64 b.wire], .int .i64 0]) c.2.1 c.2.2 := hs.get 3 rfl
      have hbk : Blk y.world k11 #[.int .i64 b.eye, .int .i64 b.bull, .slice s1 b.rings.length s4, .slice s2 b.lines.length s5, .slice s3 b.nums.length s6, .int .i64 b.wire] := hs.get 4 rfl
      have hr1 := hp1.2.2.chg (snap_chg (hs.get 0 rfl) hp1.1 hX (by omega)) (fun k hk => hk.2)
      have hr7 := hp7.2.2.chg (snap_chg (hs.get 2 rfl) hp7.1 hX (by omega)) (fun k hk => hk.2)
      have hBB := trn_join hr1 hr7 HTR2.out HTL2.out
      have HBBk := Lib.hid hBB
      have HBK17 := Lib.hid hbk
      have HX17 := Lib.hid (HX6.out.trans hX)
      generalize y.world = W17 at *
      clear hs hp1 hp7 hr1 hr7 hBB hbk hmc hmc2 hT hne u1 u7 u11 hX
      have HB417 := Lib.hid (HB4W.out.ext HX17.out)
      have HBB17 := Lib.hid (HBB.out.ext HX17.out)
      have z0 := HBK17.out.cell 0 (v := .int .i64 b.eye) rfl
      have z1 := HBK17.out.cell 1 (v := .int .i64 b.bull) rfl
      have z2 := HBK17.out.cell 2 (v := .slice s1 b.rings.length s4) rfl
      have z3 := HBK17.out.cell 3 (v := .slice s2 b.lines.length s5) rfl
      have z4 := HBK17.out.cell 4 (v := .slice s3 b.nums.length s6) rfl
      have z5 := HBK17.out.cell 5 (v := .int .i64 b.wire) rfl
      have zl := HBK17.out.lt
      have m0 := HB417.out.cell 0 (v := .int .i64 b.eye) rfl
      have m1 := HB417.out.cell 1 (v := .int .i64 b.bull) rfl
      have m2 := HB417.out.cell 2 (v := .slice a1 b.rings.length a4) rfl
      have m3 := HB417.out.cell 3 (v := .slice a2 b.lines.length a5) rfl
      have m4 := HB417.out.cell 4 (v := .slice a3 b.nums.length a6) rfl
      have m5 := HB417.out.cell 5 (v := .int .i64 b.wire) rfl
      have ml := HB417.out.lt
      go_wp2_with fail
      refine (law_same ⟨s1, s2, s3, s4, s5, s6⟩ ⟨a1, a2, a3, a4, a5, a6⟩ b b _ HBBk.out HBB17.out HSM.out).mono ?_
      rintro e w18 ⟨rfl, hx18⟩
      rw [same_self]
      go_wp2_with fail
      refine (law_known _).mono ?_
      rintro e w19 ⟨rfl, hx19⟩
      have HXE := Lib.hid ((((HXw.out.trans HX3W.out).trans HX17.out).trans hx18).trans hx19)
      clear hx18 hx19
      go_wp2
      go_ret
      exact ⟨rfl, HXE.out⟩
    · go_upto_region 17 with fail
      refine wp_region_calls (by kernel_rfl) [.no, .of (BoaS b) (boaW b) (boaW_ok b), .no, .no, .no, .no, .no, .of (TrnS b) (trnW b) (trnW_ok b), .no, .no, .no, .ptr, .any] W6.heap.size (fun (c : (Nat × World) × (Nat × World)) => max c.1.2.heap.size c.2.2.heap.size)
        (fun (c : (Nat × World) × (Nat × World)) L u => [bif L 1 then Res.snap c.1 else Res.none, bif L 1 then Res.pure (Ext W6 c.1.2 ∧ W6.heap.size ≤ c.1.1 ∧ BoaF b tb (u 1) c.1.1 c.1.2) else Res.none, bif L 7 then Res.snap c.2 else Res.none, bif L 7 then Res.pure (Ext W6 c.2.2 ∧ W6.heap.size ≤ c.2.1 ∧ TrnF b (u 1) (u 7) c.2.1 c.2.2) else Res.none,
          bif L 11 then Res.blk (ptrAt (u 11)) (bif L 12 then #[aggAt 0 (aggAt 0 (u 7)), aggAt 1 (aggAt 0 (u 7)), aggAt 2 (aggAt 0 (u 7)), aggAt 3 (aggAt 0 (u 7)), aggAt 4 (aggAt 0 (u 7)), aggAt 5 (aggAt 0 (u 7))] else #[.int .i64 0, .int .i64 0, .slice none 0 0, .slice none 0 0, .slice none 0 0, .int .i64 0]) else Res.none])
        ((0, W6), (0, W6)) (by kernel_rfl) (Nat.le_of_ble_eq_true rfl) (fun c L L' u hh => by simp only [hh 1 rfl, hh 7 rfl, hh 11 rfl, hh 12 rfl]) (by simp) (fun _ => Frm.nones _ 5 W6) ?_
      intro T hT hne u hu
      obtain ⟨p1, p2, p3, p4, p5, p6, u1⟩ : BoaS b (u 1) := hu 1 rfl
      obtain ⟨s1, s2, s3, s4, s5, s6, u7⟩ : TrnS b (u 7) := hu 7 rfl
      obtain ⟨k11, u11⟩ : ∃ k, u 11 = .pointer (some ⟨k, 0, none⟩) := hu 11 rfl
      clear hu
      refine lx_next 1 (by rfl) (by decide) ?_
      dsimp only [List.take, List.drop]
      repeat (go_big_quiet_step (fail))
      refine wpQuiet_nil ?_
      refine lx_loud (by rfl) (by kernel_rfl) ?_ (fun K hK => ?_)
      · intro L w3 hL hd hcl hC hs
        obtain ⟨y, rfl⟩ := hC
        obtain ⟨c, hmc, hs⟩ := hs
        have hzs := y.size
        have h7 := hcl.off hL 40 7 (by kernel_rfl)
        have h12 := hcl.off hL 40 12 (by kernel_rfl)
        simp only [hL, h7, h12, cond_false] at hs
        have hX : Ext W6 y.world := Chg.to_ext (Ext.refl W6) y.chg (by rintro i ⟨_, h⟩; exact h)
        go_wp2_with fail
        refine (HOT.out ⟨t1, t2, t3, t4, t5, t6⟩ _ (HTB6.out.ext hX) HN3.out).mono ?_
        rintro e w' ⟨v', rfl, hB', hN', hF', hx⟩
        have hsz' := hx.size
        have HV := Lib.hid (show BoaF b tb _ _ _ from ⟨v', rfl, hB', hN', hF'⟩)
        clear hB' hN' hF'
        unfold BrdV.cells at *
        go_wp2
        exact lik_call y (Nat.le_refl _) ⟨_, _, _, _, _, _, rfl⟩ hs 0 1 (by decide) rfl rfl hx ((y.world.heap.size, w'), c.2) (by show max w'.heap.size c.2.2.heap.size ≤ w'.heap.size; have hmc2 : max c.1.2.heap.size c.2.2.heap.size ≤ y.world.heap.size := hmc; omega) (φ := Ext W6 w' ∧ W6.heap.size ≤ y.world.heap.size ∧ BoaF b tb _ y.world.heap.size w') ⟨hX.trans hx, hzs, HV.out⟩ (by first | (simp [upd, updv, h7, h12, hL]; done) | (simp [upd, updv, h7, h12, hL]; rfl))
      rw [u1]
      go_simp
      with_reducible refine hK _ ?_
      clear hK K
      refine lx_next 5 (by rfl) (by decide) ?_
      dsimp only [List.take, List.drop]
      repeat (go_big_quiet_step (fail))
      refine wpQuiet_nil ?_
      refine lx_loud (by rfl) (by kernel_rfl) ?_ (fun K hK => ?_)
      · intro L w3 hL hd hcl hC hs
        obtain ⟨y, rfl⟩ := hC
        obtain ⟨c, hmc, hs⟩ := hs
        have hzs := y.size
        have h12 := hcl.off hL 40 12 (by kernel_rfl)
        have h1 := hd 1 (by kernel_rfl)
        simp only [hL, h12, h1, cond_true, cond_false] at hs
        have hX : Ext W6 y.world := Chg.to_ext (Ext.refl W6) y.chg (by rintro i ⟨_, h⟩; exact h)
        rw [u1] at hs
        have hmc2 : max c.1.2.heap.size c.2.2.heap.size ≤ y.world.heap.size := hmc
        have hp1 : Ext W6 c.1.2 ∧ W6.heap.size ≤ c.1.1 ∧ BoaF b tb (.agg #[.int .i64 b.eye, .int .i64 b.bull, .slice p1 b.rings.length p4, .slice p2 b.lines.length p5, .slice p3 b.nums.length p6, .int .i64 b.wire]) c.1.1 c.1.2 := hs.get 1 rfl
        have hbf := hp1.2.2.chg (snap_chg (hs.get 0 rfl) hp1.1 hX (by omega)) (fun k hk => hk.2)
        obtain ⟨hB7, hN7⟩ := BoaT.at (b := b) (c := tb) (let ⟨v', e, h1, h2, _⟩ := hbf; ⟨v', e, h1, h2⟩)
        have HC7 := Lib.hid (HTR.out ⟨p1, p2, p3, p4, p5, p6⟩ _ hB7 hN7)
        have HS7 := Lib.hid hs
        clear hp1 hbf hB7 hN7 hs
        go_wp2_with fail
        refine HC7.out.mono ?_
        rintro e w' ⟨v', rfl, hT', hx⟩
        have hsz' := hx.size
        have HV := Lib.hid (show TrnF b (.agg #[.int .i64 b.eye, .int .i64 b.bull, .slice p1 b.rings.length p4, .slice p2 b.lines.length p5, .slice p3 b.nums.length p6, .int .i64 b.wire]) (.tuple #[.agg (v'.cells b), .int .i64 0]) y.world.heap.size w' from ⟨⟨p1, p2, p3, p4, p5, p6⟩, v', rfl, rfl, hT'⟩)
        clear hT'
        unfold BrdV.cells at *
        go_wp2
        exact lik_call y (Nat.le_refl _) ⟨_, _, _, _, _, _, rfl⟩ HS7.out 2 3 (by decide) rfl rfl hx (c.1, (y.world.heap.size, w')) (by show max c.1.2.heap.size w'.heap.size ≤ w'.heap.size; omega) (φ := Ext W6 w' ∧ W6.heap.size ≤ y.world.heap.size ∧ TrnF b _ _ y.world.heap.size w') ⟨hX.trans hx, hzs, HV.out⟩ (by first | (simp [upd, updv, h1, h12, hL, u1]; done) | (simp [upd, updv, h1, h12, hL, u1]; rfl))
      rw [u7]
      go_simp
      with_reducible refine hK _ ?_
      clear hK K
      refine lx_next 3 (by rfl) (by decide) ?_
      dsimp only [List.take, List.drop]
      repeat (go_big_quiet_step (fail))
      refine wpQuiet_nil ?_
      refine lx_loud (by rfl) (by kernel_rfl) ?_ (fun K hK => ?_)
      · intro L w3 hL hd hcl hC hs
        obtain ⟨y, rfl⟩ := hC
        obtain ⟨c, hmc, hs⟩ := hs
        have hzs := y.size
        have h12 := hcl.off hL 40 12 (by kernel_rfl)
        simp only [hL, h12, cond_false] at hs
        go_wp2
        exact lik_set y (Nat.le_refl _) ⟨_, rfl⟩ hs 4 (r' := Res.blk y.world.heap.size #[.int .i64 0, .int .i64 0, .slice none 0 0, .slice none 0 0, .slice none 0 0, .int .i64 0]) rfl (((Ext.refl y.world).alloc _).chg _) (Blk.new _ _ _) (fun k hk => .inr (by rw [show k = y.world.heap.size from hk]; simp)) c hmc (by first | (simp [upd, updv, h12, hL]; done) | (simp [upd, updv, h12, hL]; rfl))
      rw [u11]
      go_simp
      with_reducible refine hK _ ?_
      clear hK K
      refine lx_loud (by rfl) (by kernel_rfl) ?_ (fun K hK => ?_)
      · intro L w3 hL hd hcl hC hs
        obtain ⟨y, rfl⟩ := hC
        obtain ⟨c, hmc, hs⟩ := hs
        have hzs := y.size
        have h7 := hcl.on 40 (hd 9 (by kernel_rfl)) (j := 9) (i := 7) (by kernel_rfl)
        have h11 := hd 11 (by kernel_rfl)
        simp only [hL, h11, h7, cond_true, cond_false] at hs
        rw [u11] at hs
        have hb : Blk y.world k11 #[.int .i64 0, .int .i64 0, .slice none 0 0, .slice none 0 0, .slice none 0 0, .int .i64 0] := hs.get 4 rfl
        have hlt := hb.lt
        have q0 := hb.cell 0 (v := .int .i64 0) rfl
        have f0 := hb.frozen 0
        have q1 := hb.cell 1 (v := .int .i64 0) rfl
        have f1 := hb.frozen 1
        have q2 := hb.cell 2 (v := .slice none 0 0) rfl
        have f2 := hb.frozen 2
        have q3 := hb.cell 3 (v := .slice none 0 0) rfl
        have f3 := hb.frozen 3
        have q4 := hb.cell 4 (v := .slice none 0 0) rfl
        have f4 := hb.frozen 4
        have q5 := hb.cell 5 (v := .int .i64 0) rfl
        have f5 := hb.frozen 5
        go_wp2
        exact lik_set y (Nat.le_refl _) trivial hs 4 rfl (six_chg (fun k => k = k11) _ rfl _ _ _ _ _ _) (r' := Res.blk k11 #[.int .i64 b.eye, .int .i64 b.bull, .slice s1 b.rings.length s4, .slice s2 b.lines.length s5, .slice s3 b.nums.length s6, .int .i64 b.wire]) (six_set hb _ _ _ _ _ _) (fun _ hk => .inl hk) c hmc (by first | (simp [upd, updv, h7, h11, hL, u7, u11, aggAt, ptrAt]; done) | (simp [upd, updv, h7, h11, hL, u7, u11, aggAt, ptrAt]; rfl))
      go_simp
      with_reducible refine hK _ ?_
      clear hK K
      refine lx_next 1 (by rfl) (by decide) ?_
      dsimp only [List.take, List.drop]
      repeat (go_big_quiet_step (fail))
      refine wpQuiet_nil ?_
      refine lx_nil ?_
      intro y hs
      obtain ⟨c, hmc, hs⟩ := hs
      rw [u1, u7, u11] at hs
      have hmc2 : max c.1.2.heap.size c.2.2.heap.size ≤ y.world.heap.size := hmc
      have hX : Ext W6 y.world := Chg.to_ext (Ext.refl W6) y.chg (by rintro i ⟨_, h⟩; exact h)
      have hp1 : Ext W6 c.1.2 ∧ W6.heap.size ≤ c.1.1 ∧ BoaF b tb (.agg #[.int .i64 b.eye, .int .i64 b.bull, .slice p1 b.rings.length p4, .slice p2 b.lines.length p5, .slice p3 b.nums.length p6, .int .i64 b.wire]) c.1.1 c.1.2 := hs.get 1 rfl
      have hp7 : Ext W6 c.2.2 ∧ W6.heap.size ≤ c.2.1 ∧ TrnF b (.agg #[.int .i64 b.eye, .int .i64 b.bull, .slice p1 b.rings.length p4, .slice p2 b.lines.length p5, .slice p3 b.nums.length p6, .int .i64 b.wire]) (.tuple #[.agg #[.int .i64 b.eye, .int .i64 b.bull, .slice s1 b.rings.length s4, .slice s2 b.lines.length s5, .slice s3 b.nums.length s6, .int .i64 b.wire], .int .i64 0]) c.2.1 c.2.2 := hs.get 3 rfl
      have hbk : Blk y.world k11 #[.int .i64 b.eye, .int .i64 b.bull, .slice s1 b.rings.length s4, .slice s2 b.lines.length s5, .slice s3 b.nums.length s6, .int .i64 b.wire] := hs.get 4 rfl
      have hr1 := hp1.2.2.chg (snap_chg (hs.get 0 rfl) hp1.1 hX (by omega)) (fun k hk => hk.2)
      have hr7 := hp7.2.2.chg (snap_chg (hs.get 2 rfl) hp7.1 hX (by omega)) (fun k hk => hk.2)
      have hBB := trn_join hr1 hr7 HTR2.out HTL2.out
      have HBBk := Lib.hid hBB
      have HBK17 := Lib.hid hbk
      have HX17 := Lib.hid (HX6.out.trans hX)
      generalize y.world = W17 at *
      clear hs hp1 hp7 hr1 hr7 hBB hbk hmc hmc2 hT hne u1 u7 u11 hX
      have HB417 := Lib.hid (HB4W.out.ext HX17.out)
      have HBB17 := Lib.hid (HBB.out.ext HX17.out)
      have z0 := HBK17.out.cell 0 (v := .int .i64 b.eye) rfl
      have z1 := HBK17.out.cell 1 (v := .int .i64 b.bull) rfl
      have z2 := HBK17.out.cell 2 (v := .slice s1 b.rings.length s4) rfl
      have z3 := HBK17.out.cell 3 (v := .slice s2 b.lines.length s5) rfl
      have z4 := HBK17.out.cell 4 (v := .slice s3 b.nums.length s6) rfl
      have z5 := HBK17.out.cell 5 (v := .int .i64 b.wire) rfl
      have zl := HBK17.out.lt
      have m0 := HB417.out.cell 0 (v := .int .i64 b.eye) rfl
      have m1 := HB417.out.cell 1 (v := .int .i64 b.bull) rfl
      have m2 := HB417.out.cell 2 (v := .slice a1 b.rings.length a4) rfl
      have m3 := HB417.out.cell 3 (v := .slice a2 b.lines.length a5) rfl
      have m4 := HB417.out.cell 4 (v := .slice a3 b.nums.length a6) rfl
      have m5 := HB417.out.cell 5 (v := .int .i64 b.wire) rfl
      have ml := HB417.out.lt
      go_wp2_with fail
      refine (law_same ⟨s1, s2, s3, s4, s5, s6⟩ ⟨a1, a2, a3, a4, a5, a6⟩ b b _ HBBk.out HBB17.out HSM.out).mono ?_
      rintro e w18 ⟨rfl, hx18⟩
      rw [same_self]
      go_wp2_with fail
      refine (law_known _).mono ?_
      rintro e w19 ⟨rfl, hx19⟩
      have HXE := Lib.hid ((((HXw.out.trans HX3W.out).trans HX17.out).trans hx18).trans hx19)
      clear hx18 hx19
      go_wp2
      go_ret
      exact ⟨rfl, HXE.out⟩
    · go_upto_region 17 with fail
      refine wp_region_calls (by kernel_rfl) [.no, .of (BoaS b) (boaW b) (boaW_ok b), .no, .no, .no, .no, .no, .of (TrnS b) (trnW b) (trnW_ok b), .no, .no, .no, .ptr, .any] W6.heap.size (fun (c : (Nat × World) × (Nat × World)) => max c.1.2.heap.size c.2.2.heap.size)
        (fun (c : (Nat × World) × (Nat × World)) L u => [bif L 1 then Res.snap c.1 else Res.none, bif L 1 then Res.pure (Ext W6 c.1.2 ∧ W6.heap.size ≤ c.1.1 ∧ BoaF b tb (u 1) c.1.1 c.1.2) else Res.none, bif L 7 then Res.snap c.2 else Res.none, bif L 7 then Res.pure (Ext W6 c.2.2 ∧ W6.heap.size ≤ c.2.1 ∧ TrnF b (u 1) (u 7) c.2.1 c.2.2) else Res.none,
          bif L 11 then Res.blk (ptrAt (u 11)) (bif L 12 then #[aggAt 0 (aggAt 0 (u 7)), aggAt 1 (aggAt 0 (u 7)), aggAt 2 (aggAt 0 (u 7)), aggAt 3 (aggAt 0 (u 7)), aggAt 4 (aggAt 0 (u 7)), aggAt 5 (aggAt 0 (u 7))] else #[.int .i64 0, .int .i64 0, .slice none 0 0, .slice none 0 0, .slice none 0 0, .int .i64 0]) else Res.none])
        ((0, W6), (0, W6)) (by kernel_rfl) (Nat.le_of_ble_eq_true rfl) (fun c L L' u hh => by simp only [hh 1 rfl, hh 7 rfl, hh 11 rfl, hh 12 rfl]) (by simp) (fun _ => Frm.nones _ 5 W6) ?_
      intro T hT hne u hu
      obtain ⟨p1, p2, p3, p4, p5, p6, u1⟩ : BoaS b (u 1) := hu 1 rfl
      obtain ⟨s1, s2, s3, s4, s5, s6, u7⟩ : TrnS b (u 7) := hu 7 rfl
      obtain ⟨k11, u11⟩ : ∃ k, u 11 = .pointer (some ⟨k, 0, none⟩) := hu 11 rfl
      clear hu
      refine lx_next 1 (by rfl) (by decide) ?_
      dsimp only [List.take, List.drop]
      repeat (go_big_quiet_step (fail))
      refine wpQuiet_nil ?_
      refine lx_loud (by rfl) (by kernel_rfl) ?_ (fun K hK => ?_)
      · intro L w3 hL hd hcl hC hs
        obtain ⟨y, rfl⟩ := hC
        obtain ⟨c, hmc, hs⟩ := hs
        have hzs := y.size
        have h7 := hcl.off hL 40 7 (by kernel_rfl)
        have h12 := hcl.off hL 40 12 (by kernel_rfl)
        simp only [hL, h7, h12, cond_false] at hs
        have hX : Ext W6 y.world := Chg.to_ext (Ext.refl W6) y.chg (by rintro i ⟨_, h⟩; exact h)
        go_wp2_with fail
        refine (HOT.out ⟨t1, t2, t3, t4, t5, t6⟩ _ (HTB6.out.ext hX) HN3.out).mono ?_
        rintro e w' ⟨v', rfl, hB', hN', hF', hx⟩
        have hsz' := hx.size
        have HV := Lib.hid (show BoaF b tb _ _ _ from ⟨v', rfl, hB', hN', hF'⟩)
        clear hB' hN' hF'
        unfold BrdV.cells at *
        go_wp2
        exact lik_call y (Nat.le_refl _) ⟨_, _, _, _, _, _, rfl⟩ hs 0 1 (by decide) rfl rfl hx ((y.world.heap.size, w'), c.2) (by show max w'.heap.size c.2.2.heap.size ≤ w'.heap.size; have hmc2 : max c.1.2.heap.size c.2.2.heap.size ≤ y.world.heap.size := hmc; omega) (φ := Ext W6 w' ∧ W6.heap.size ≤ y.world.heap.size ∧ BoaF b tb _ y.world.heap.size w') ⟨hX.trans hx, hzs, HV.out⟩ (by first | (simp [upd, updv, h7, h12, hL]; done) | (simp [upd, updv, h7, h12, hL]; rfl))
      rw [u1]
      go_simp
      with_reducible refine hK _ ?_
      clear hK K
      refine lx_next 5 (by rfl) (by decide) ?_
      dsimp only [List.take, List.drop]
      repeat (go_big_quiet_step (fail))
      refine wpQuiet_nil ?_
      refine lx_loud (by rfl) (by kernel_rfl) ?_ (fun K hK => ?_)
      · intro L w3 hL hd hcl hC hs
        obtain ⟨y, rfl⟩ := hC
        obtain ⟨c, hmc, hs⟩ := hs
        have hzs := y.size
        have h12 := hcl.off hL 40 12 (by kernel_rfl)
        have h1 := hd 1 (by kernel_rfl)
        simp only [hL, h12, h1, cond_true, cond_false] at hs
        have hX : Ext W6 y.world := Chg.to_ext (Ext.refl W6) y.chg (by rintro i ⟨_, h⟩; exact h)
        rw [u1] at hs
        have hmc2 : max c.1.2.heap.size c.2.2.heap.size ≤ y.world.heap.size := hmc
        have hp1 : Ext W6 c.1.2 ∧ W6.heap.size ≤ c.1.1 ∧ BoaF b tb (.agg #[.int .i64 b.eye, .int .i64 b.bull, .slice p1 b.rings.length p4, .slice p2 b.lines.length p5, .slice p3 b.nums.length p6, .int .i64 b.wire]) c.1.1 c.1.2 := hs.get 1 rfl
        have hbf := hp1.2.2.chg (snap_chg (hs.get 0 rfl) hp1.1 hX (by omega)) (fun k hk => hk.2)
        obtain ⟨hB7, hN7⟩ := BoaT.at (b := b) (c := tb) (let ⟨v', e, h1, h2, _⟩ := hbf; ⟨v', e, h1, h2⟩)
        have HC7 := Lib.hid (HTR.out ⟨p1, p2, p3, p4, p5, p6⟩ _ hB7 hN7)
        have HS7 := Lib.hid hs
        clear hp1 hbf hB7 hN7 hs
        go_wp2_with fail
        refine HC7.out.mono ?_
        rintro e w' ⟨v', rfl, hT', hx⟩
        have hsz' := hx.size
        have HV := Lib.hid (show TrnF b (.agg #[.int .i64 b.eye, .int .i64 b.bull, .slice p1 b.rings.length p4, .slice p2 b.lines.length p5, .slice p3 b.nums.length p6, .int .i64 b.wire]) (.tuple #[.agg (v'.cells b), .int .i64 0]) y.world.heap.size w' from ⟨⟨p1, p2, p3, p4, p5, p6⟩, v', rfl, rfl, hT'⟩)
        clear hT'
        unfold BrdV.cells at *
        go_wp2
        exact lik_call y (Nat.le_refl _) ⟨_, _, _, _, _, _, rfl⟩ HS7.out 2 3 (by decide) rfl rfl hx (c.1, (y.world.heap.size, w')) (by show max c.1.2.heap.size w'.heap.size ≤ w'.heap.size; omega) (φ := Ext W6 w' ∧ W6.heap.size ≤ y.world.heap.size ∧ TrnF b _ _ y.world.heap.size w') ⟨hX.trans hx, hzs, HV.out⟩ (by first | (simp [upd, updv, h1, h12, hL, u1]; done) | (simp [upd, updv, h1, h12, hL, u1]; rfl))
      rw [u7]
      go_simp
      with_reducible refine hK _ ?_
      clear hK K
      refine lx_next 3 (by rfl) (by decide) ?_
      dsimp only [List.take, List.drop]
      repeat (go_big_quiet_step (fail))
      refine wpQuiet_nil ?_
      refine lx_loud (by rfl) (by kernel_rfl) ?_ (fun K hK => ?_)
      · intro L w3 hL hd hcl hC hs
        obtain ⟨y, rfl⟩ := hC
        obtain ⟨c, hmc, hs⟩ := hs
        have hzs := y.size
        have h12 := hcl.off hL 40 12 (by kernel_rfl)
        simp only [hL, h12, cond_false] at hs
        go_wp2
        exact lik_set y (Nat.le_refl _) ⟨_, rfl⟩ hs 4 (r' := Res.blk y.world.heap.size #[.int .i64 0, .int .i64 0, .slice none 0 0, .slice none 0 0, .slice none 0 0, .int .i64 0]) rfl (((Ext.refl y.world).alloc _).chg _) (Blk.new _ _ _) (fun k hk => .inr (by rw [show k = y.world.heap.size from hk]; simp)) c hmc (by first | (simp [upd, updv, h12, hL]; done) | (simp [upd, updv, h12, hL]; rfl))
      rw [u11]
      go_simp
      with_reducible refine hK _ ?_
      clear hK K
      refine lx_loud (by rfl) (by kernel_rfl) ?_ (fun K hK => ?_)
      · intro L w3 hL hd hcl hC hs
        obtain ⟨y, rfl⟩ := hC
        obtain ⟨c, hmc, hs⟩ := hs
        have hzs := y.size
        have h7 := hcl.on 40 (hd 9 (by kernel_rfl)) (j := 9) (i := 7) (by kernel_rfl)
        have h11 := hd 11 (by kernel_rfl)
        simp only [hL, h11, h7, cond_true, cond_false] at hs
        rw [u11] at hs
        have hb : Blk y.world k11 #[.int .i64 0, .int .i64 0, .slice none 0 0, .slice none 0 0, .slice none 0 0, .int .i64 0] := hs.get 4 rfl
        have hlt := hb.lt
        have q0 := hb.cell 0 (v := .int .i64 0) rfl
        have f0 := hb.frozen 0
        have q1 := hb.cell 1 (v := .int .i64 0) rfl
        have f1 := hb.frozen 1
        have q2 := hb.cell 2 (v := .slice none 0 0) rfl
        have f2 := hb.frozen 2
        have q3 := hb.cell 3 (v := .slice none 0 0) rfl
        have f3 := hb.frozen 3
        have q4 := hb.cell 4 (v := .slice none 0 0) rfl
        have f4 := hb.frozen 4
        have q5 := hb.cell 5 (v := .int .i64 0) rfl
        have f5 := hb.frozen 5
        go_wp2
        exact lik_set y (Nat.le_refl _) trivial hs 4 rfl (six_chg (fun k => k = k11) _ rfl _ _ _ _ _ _) (r' := Res.blk k11 #[.int .i64 b.eye, .int .i64 b.bull, .slice s1 b.rings.length s4, .slice s2 b.lines.length s5, .slice s3 b.nums.length s6, .int .i64 b.wire]) (six_set hb _ _ _ _ _ _) (fun _ hk => .inl hk) c hmc (by first | (simp [upd, updv, h7, h11, hL, u7, u11, aggAt, ptrAt]; done) | (simp [upd, updv, h7, h11, hL, u7, u11, aggAt, ptrAt]; rfl))
      go_simp
      with_reducible refine hK _ ?_
      clear hK K
      refine lx_next 1 (by rfl) (by decide) ?_
      dsimp only [List.take, List.drop]
      repeat (go_big_quiet_step (fail))
      refine wpQuiet_nil ?_
      refine lx_nil ?_
      intro y hs
      obtain ⟨c, hmc, hs⟩ := hs
      rw [u1, u7, u11] at hs
      have hmc2 : max c.1.2.heap.size c.2.2.heap.size ≤ y.world.heap.size := hmc
      have hX : Ext W6 y.world := Chg.to_ext (Ext.refl W6) y.chg (by rintro i ⟨_, h⟩; exact h)
      have hp1 : Ext W6 c.1.2 ∧ W6.heap.size ≤ c.1.1 ∧ BoaF b tb (.agg #[.int .i64 b.eye, .int .i64 b.bull, .slice p1 b.rings.length p4, .slice p2 b.lines.length p5, .slice p3 b.nums.length p6, .int .i64 b.wire]) c.1.1 c.1.2 := hs.get 1 rfl
      have hp7 : Ext W6 c.2.2 ∧ W6.heap.size ≤ c.2.1 ∧ TrnF b (.agg #[.int .i64 b.eye, .int .i64 b.bull, .slice p1 b.rings.length p4, .slice p2 b.lines.length p5, .slice p3 b.nums.length p6, .int .i64 b.wire]) (.tuple #[.agg #[.int .i64 b.eye, .int .i64 b.bull, .slice s1 b.rings.length s4, .slice s2 b.lines.length s5, .slice s3 b.nums.length s6, .int .i64 b.wire], .int .i64 0]) c.2.1 c.2.2 := hs.get 3 rfl
      have hbk : Blk y.world k11 #[.int .i64 b.eye, .int .i64 b.bull, .slice s1 b.rings.length s4, .slice s2 b.lines.length s5, .slice s3 b.nums.length s6, .int .i64 b.wire] := hs.get 4 rfl
      have hr1 := hp1.2.2.chg (snap_chg (hs.get 0 rfl) hp1.1 hX (by omega)) (fun k hk => hk.2)
      have hr7 := hp7.2.2.chg (snap_chg (hs.get 2 rfl) hp7.1 hX (by omega)) (fun k hk => hk.2)
      have hBB := trn_join hr1 hr7 HTR2.out HTL2.out
      have HBBk := Lib.hid hBB
      have HBK17 := Lib.hid hbk
      have HX17 := Lib.hid (HX6.out.trans hX)
      generalize y.world = W17 at *
      clear hs hp1 hp7 hr1 hr7 hBB hbk hmc hmc2 hT hne u1 u7 u11 hX
      have HB417 := Lib.hid (HB4W.out.ext HX17.out)
      have HBB17 := Lib.hid (HBB.out.ext HX17.out)
      have z0 := HBK17.out.cell 0 (v := .int .i64 b.eye) rfl
      have z1 := HBK17.out.cell 1 (v := .int .i64 b.bull) rfl
      have z2 := HBK17.out.cell 2 (v := .slice s1 b.rings.length s4) rfl
      have z3 := HBK17.out.cell 3 (v := .slice s2 b.lines.length s5) rfl
      have z4 := HBK17.out.cell 4 (v := .slice s3 b.nums.length s6) rfl
      have z5 := HBK17.out.cell 5 (v := .int .i64 b.wire) rfl
      have zl := HBK17.out.lt
      have m0 := HB417.out.cell 0 (v := .int .i64 b.eye) rfl
      have m1 := HB417.out.cell 1 (v := .int .i64 b.bull) rfl
      have m2 := HB417.out.cell 2 (v := .slice a1 b.rings.length a4) rfl
      have m3 := HB417.out.cell 3 (v := .slice a2 b.lines.length a5) rfl
      have m4 := HB417.out.cell 4 (v := .slice a3 b.nums.length a6) rfl
      have m5 := HB417.out.cell 5 (v := .int .i64 b.wire) rfl
      have ml := HB417.out.lt
      go_wp2_with fail
      refine (law_same ⟨s1, s2, s3, s4, s5, s6⟩ ⟨a1, a2, a3, a4, a5, a6⟩ b b _ HBBk.out HBB17.out HSM.out).mono ?_
      rintro e w18 ⟨rfl, hx18⟩
      rw [same_self]
      go_wp2_with fail
      refine (law_known _).mono ?_
      rintro e w19 ⟨rfl, hx19⟩
      have HXE := Lib.hid ((((HXw.out.trans HX3W.out).trans HX17.out).trans hx18).trans hx19)
      clear hx18 hx19
      go_wp2
      go_ret
      exact ⟨rfl, HXE.out⟩
  · obtain ⟨m, hm⟩ : ∃ m, b.nums.getD s 0 = m := ⟨_, rfl⟩
    obtain ⟨m', hm'⟩ : ∃ m, b.nums.getD ((s + b.nums.length - j) % b.nums.length) 0 = m := ⟨_, rfl⟩
    have hgm : ∀ i, i < b.nums.length → 1 ≤ b.nums.getD i 0 ∧ b.nums.getD i 0 ≤ 20 := fun i hi => by
      rw [List.getD_eq_getElem?_getD, List.getElem?_eq_getElem hi]
      exact HNR.out _ (List.getElem_mem hi)
    have hm1 := hgm s hs
    have hm1' := hgm _ (Nat.mod_lt (s + b.nums.length - j) (by omega : 0 < b.nums.length))
    rw [hm] at hA hm1
    rw [hm'] at hC hm1'
    have hA0 : (A == 0) = false := by simp; omega
    have hAd : A.tdiv 100 = f := by rw [Int.tdiv_eq_ediv_of_nonneg (by omega)]; omega
    have hCd : C.tdiv 100 = f := by rw [Int.tdiv_eq_ediv_of_nonneg (by omega)]; omega
    have hAm : A.tmod 100 = m := by rw [Int.tmod_eq_emod_of_nonneg (by omega)]; omega
    have hCm : C.tmod 100 = m' := by rw [Int.tmod_eq_emod_of_nonneg (by omega)]; omega
    have hm25 : (m == 25) = false := by simp; omega
    have HT6 := Lib.hid (HTT.out.ext HX6.out)
    have HB46 := Lib.hid (HB4W.out.ext HX6.out)
    have HNS := Lib.hid hs
    have HMS := Lib.hid hm
    have HMS' := Lib.hid hm'
    have HGM := Lib.hid hgm
    have g0 := HT6.out.cell 0 (v := .int .i64 b.eye) rfl
    have g1 := HT6.out.cell 1 (v := .int .i64 b.bull) rfl
    have g2 := HT6.out.cell 2 (v := .slice t1 b.rings.length t4) rfl
    have g3 := HT6.out.cell 3 (v := .slice t2 b.lines.length t5) rfl
    have g4 := HT6.out.cell 4 (v := .slice t3 b.nums.length t6) rfl
    have g5 := HT6.out.cell 5 (v := .int .i64 b.wire) rfl
    have gl := HT6.out.lt
    have m0 := HB46.out.cell 0 (v := .int .i64 b.eye) rfl
    have m1 := HB46.out.cell 1 (v := .int .i64 b.bull) rfl
    have m2 := HB46.out.cell 2 (v := .slice a1 b.rings.length a4) rfl
    have m3 := HB46.out.cell 3 (v := .slice a2 b.lines.length a5) rfl
    have m4 := HB46.out.cell 4 (v := .slice a3 b.nums.length a6) rfl
    have m5 := HB46.out.cell 5 (v := .int .i64 b.wire) rfl
    have ml := HB46.out.lt
    clear hA hC hm hm' hm1 hm1' hgm hs
    go_wp2
    go_loopw [19] (fun i wr => ∃ k : Nat, k ≤ b.nums.length ∧ i = .int .i64 k ∧ Ext W6 wr) (fun i _ => b.nums.length - (intOf i).toNat)
    case atStart => exact ⟨0, Nat.zero_le _, rfl, Ext.refl W6⟩
    case round =>
      obtain ⟨k, hk, rfl, hxr⟩ := hrel
      have HXR := Lib.hid hxr
      have HB4r := Lib.hid (HB46.out.ext hxr)
      clear m0 m1 m2 m3 m4 m5 ml
      have m0 := HB4r.out.cell 0 (v := .int .i64 b.eye) rfl
      have m1 := HB4r.out.cell 1 (v := .int .i64 b.bull) rfl
      have m2 := HB4r.out.cell 2 (v := .slice a1 b.rings.length a4) rfl
      have m3 := HB4r.out.cell 3 (v := .slice a2 b.lines.length a5) rfl
      have m4 := HB4r.out.cell 4 (v := .slice a3 b.nums.length a6) rfl
      have m5 := HB4r.out.cell 5 (v := .int .i64 b.wire) rfl
      have ml := HB4r.out.lt
      clear hxr
      by_cases hlt : k < b.nums.length
      · obtain ⟨q, hq⟩ : ∃ q : Nat, (k + b.nums.length - j) % b.nums.length = q := ⟨_, rfl⟩
        have hql : q < b.nums.length := by rw [← hq]; exact Nat.mod_lt _ (by omega)
        have hqm : ((k : Int) + (b.nums.length : Int) - (j : Int)).tmod (b.nums.length : Int) = (q : Int) := by
          rw [show ((k : Int) + (b.nums.length : Int) - (j : Int)) = ((k + b.nums.length - j : Nat) : Int) by omega, ← hq]; rfl
        have hnr := (HBB.out.ext (HX6.out.trans HXR.out)).nums
        obtain ⟨nb, no, e, c0⟩ := hnr k hlt
        obtain ⟨nb', no', e', c1⟩ := hnr q hql
        simp only at e e'
        rw [e] at e'
        cases e'
        subst e
        have HQ := Lib.hid hq
        obtain ⟨zk, hzk⟩ : ∃ z, b.nums[k] = z := ⟨_, rfl⟩
        obtain ⟨zq, hzq⟩ : ∃ z, b.nums[q] = z := ⟨_, rfl⟩
        rw [hzk] at c0
        rw [hzq] at c1
        have HZK := Lib.hid hzk
        have HZQ := Lib.hid hzq
        clear hq hnr hzk hzq
        have hnl := lt_of_cell c0
        simp only at hnl
        cases hzm : (zk == m)
        case false =>
          go_upto_region 15 with fail
          refine wp_region_later (by kernel_rfl) (by kernel_rfl) ?_
          repeat (go_big_quiet_step (fail))
          refine wpQuiet_nil ?_
          intro w4 hw4
          obtain ⟨⟨w4, hx4⟩, rfl⟩ := hw4
          go_wp2
          go_roundw
          case rel => exact ⟨k + 1, by omega, by go_num, HXR.out.trans hx4⟩
          case measure => simp [intOf]; omega
        case true =>
          have hzqm : (zq == m') = true := by
            have h1 : zk = m := by simpa using hzm
            have h2 : k = s := by
              have h3 : b.nums[k] = b.nums[s]'HNS.out := by
                rw [HZK.out, h1, ← HMS.out, List.getD_eq_getElem?_getD, List.getElem?_eq_getElem HNS.out]; rfl
              exact (List.getElem_inj HND.out).1 h3
            have h4 : zq = m' := by
              rw [← HMS'.out, ← h2, HQ.out, ← HZQ.out, List.getD_eq_getElem?_getD, List.getElem?_eq_getElem hql]; rfl
            simpa using h4
          have hzqn : (zq != m') = false := by rw [bne, hzqm]; rfl
          clear hzqm
          go_upto_region 15 with fail
          refine wp_region_later (by kernel_rfl) (by kernel_rfl) ?_
          repeat (go_big_quiet_step (fail))
          refine wpQuiet_nil ?_
          intro w4 hw4
          obtain ⟨⟨w4, hx4⟩, rfl⟩ := hw4
          go_wp2
          go_roundw
          case rel => exact ⟨k + 1, by omega, by go_num, HXR.out.trans hx4⟩
          case measure => simp [intOf]; omega
      · obtain rfl : k = b.nums.length := by omega
        have HX6r := Lib.hid (HX6.out.trans HXR.out)
        have HT6r := Lib.hid (HTT.out.ext HX6r.out)
        have HTB6r := Lib.hid (HTB.out.ext HX6r.out)
        clear g0 g1 g2 g3 g4 g5
        have g0 := HT6r.out.cell 0 (v := .int .i64 b.eye) rfl
        have g1 := HT6r.out.cell 1 (v := .int .i64 b.bull) rfl
        have g2 := HT6r.out.cell 2 (v := .slice t1 b.rings.length t4) rfl
        have g3 := HT6r.out.cell 3 (v := .slice t2 b.lines.length t5) rfl
        have g4 := HT6r.out.cell 4 (v := .slice t3 b.nums.length t6) rfl
        have g5 := HT6r.out.cell 5 (v := .int .i64 b.wire) rfl
        have gl := HT6r.out.lt
        have hgn : ¬ (wr.heap.size ≤ w3.heap.size) := by omega
        go_upto_region 17 with fail
        refine wp_region_calls (by kernel_rfl) [.no, .of (BoaS b) (boaW b) (boaW_ok b), .no, .no, .no, .no, .no, .of (TrnS b) (trnW b) (trnW_ok b), .no, .no, .no, .ptr, .any] wr.heap.size (fun (c : (Nat × World) × (Nat × World)) => max c.1.2.heap.size c.2.2.heap.size)
          (fun (c : (Nat × World) × (Nat × World)) L u => [bif L 1 then Res.snap c.1 else Res.none, bif L 1 then Res.pure (Ext wr c.1.2 ∧ wr.heap.size ≤ c.1.1 ∧ BoaF b tb (u 1) c.1.1 c.1.2) else Res.none, bif L 7 then Res.snap c.2 else Res.none, bif L 7 then Res.pure (Ext wr c.2.2 ∧ wr.heap.size ≤ c.2.1 ∧ TrnF b (u 1) (u 7) c.2.1 c.2.2) else Res.none,
            bif L 11 then Res.blk (ptrAt (u 11)) (bif L 12 then #[aggAt 0 (aggAt 0 (u 7)), aggAt 1 (aggAt 0 (u 7)), aggAt 2 (aggAt 0 (u 7)), aggAt 3 (aggAt 0 (u 7)), aggAt 4 (aggAt 0 (u 7)), aggAt 5 (aggAt 0 (u 7))] else #[.int .i64 0, .int .i64 0, .slice none 0 0, .slice none 0 0, .slice none 0 0, .int .i64 0]) else Res.none])
          ((0, wr), (0, wr)) (by kernel_rfl) (Nat.le_of_ble_eq_true rfl) (fun c L L' u hh => by simp only [hh 1 rfl, hh 7 rfl, hh 11 rfl, hh 12 rfl]) (by simp) (fun _ => Frm.nones _ 5 wr) ?_
        intro T hT hne u hu
        obtain ⟨p1, p2, p3, p4, p5, p6, u1⟩ : BoaS b (u 1) := hu 1 rfl
        obtain ⟨s1, s2, s3, s4, s5, s6, u7⟩ : TrnS b (u 7) := hu 7 rfl
        obtain ⟨k11, u11⟩ : ∃ k, u 11 = .pointer (some ⟨k, 0, none⟩) := hu 11 rfl
        clear hu
        refine lx_next 1 (by rfl) (by decide) ?_
        dsimp only [List.take, List.drop]
        repeat (go_big_quiet_step (fail))
        refine wpQuiet_nil ?_
        refine lx_loud (by rfl) (by kernel_rfl) ?_ (fun K hK => ?_)
        · intro L w3 hL hd hcl hC hs
          obtain ⟨y, rfl⟩ := hC
          obtain ⟨c, hmc, hs⟩ := hs
          have hzs := y.size
          have h7 := hcl.off hL 40 7 (by kernel_rfl)
          have h12 := hcl.off hL 40 12 (by kernel_rfl)
          simp only [hL, h7, h12, cond_false] at hs
          have hX : Ext wr y.world := Chg.to_ext (Ext.refl wr) y.chg (by rintro i ⟨_, h⟩; exact h)
          go_wp2_with fail
          refine (HOT.out ⟨t1, t2, t3, t4, t5, t6⟩ _ (HTB6r.out.ext hX) HN3.out).mono ?_
          rintro e w' ⟨v', rfl, hB', hN', hF', hx⟩
          have hsz' := hx.size
          have HV := Lib.hid (show BoaF b tb _ _ _ from ⟨v', rfl, hB', hN', hF'⟩)
          clear hB' hN' hF'
          unfold BrdV.cells at *
          go_wp2
          exact lik_call y (Nat.le_refl _) ⟨_, _, _, _, _, _, rfl⟩ hs 0 1 (by decide) rfl rfl hx ((y.world.heap.size, w'), c.2) (by show max w'.heap.size c.2.2.heap.size ≤ w'.heap.size; have hmc2 : max c.1.2.heap.size c.2.2.heap.size ≤ y.world.heap.size := hmc; omega) (φ := Ext wr w' ∧ wr.heap.size ≤ y.world.heap.size ∧ BoaF b tb _ y.world.heap.size w') ⟨hX.trans hx, hzs, HV.out⟩ (by first | (simp [upd, updv, h7, h12, hL]; done) | (simp [upd, updv, h7, h12, hL]; rfl))
        rw [u1]
        go_simp
        with_reducible refine hK _ ?_
        clear hK K
        refine lx_next 5 (by rfl) (by decide) ?_
        dsimp only [List.take, List.drop]
        repeat (go_big_quiet_step (fail))
        refine wpQuiet_nil ?_
        refine lx_loud (by rfl) (by kernel_rfl) ?_ (fun K hK => ?_)
        · intro L w3 hL hd hcl hC hs
          obtain ⟨y, rfl⟩ := hC
          obtain ⟨c, hmc, hs⟩ := hs
          have hzs := y.size
          have h12 := hcl.off hL 40 12 (by kernel_rfl)
          have h1 := hd 1 (by kernel_rfl)
          simp only [hL, h12, h1, cond_true, cond_false] at hs
          have hX : Ext wr y.world := Chg.to_ext (Ext.refl wr) y.chg (by rintro i ⟨_, h⟩; exact h)
          rw [u1] at hs
          have hmc2 : max c.1.2.heap.size c.2.2.heap.size ≤ y.world.heap.size := hmc
          have hp1 : Ext wr c.1.2 ∧ wr.heap.size ≤ c.1.1 ∧ BoaF b tb (.agg #[.int .i64 b.eye, .int .i64 b.bull, .slice p1 b.rings.length p4, .slice p2 b.lines.length p5, .slice p3 b.nums.length p6, .int .i64 b.wire]) c.1.1 c.1.2 := hs.get 1 rfl
          have hbf := hp1.2.2.chg (snap_chg (hs.get 0 rfl) hp1.1 hX (by omega)) (fun k hk => hk.2)
          obtain ⟨hB7, hN7⟩ := BoaT.at (b := b) (c := tb) (let ⟨v', e, h1, h2, _⟩ := hbf; ⟨v', e, h1, h2⟩)
          have HC7 := Lib.hid (HTR.out ⟨p1, p2, p3, p4, p5, p6⟩ _ hB7 hN7)
          have HS7 := Lib.hid hs
          clear hp1 hbf hB7 hN7 hs
          go_wp2_with fail
          refine HC7.out.mono ?_
          rintro e w' ⟨v', rfl, hT', hx⟩
          have hsz' := hx.size
          have HV := Lib.hid (show TrnF b (.agg #[.int .i64 b.eye, .int .i64 b.bull, .slice p1 b.rings.length p4, .slice p2 b.lines.length p5, .slice p3 b.nums.length p6, .int .i64 b.wire]) (.tuple #[.agg (v'.cells b), .int .i64 0]) y.world.heap.size w' from ⟨⟨p1, p2, p3, p4, p5, p6⟩, v', rfl, rfl, hT'⟩)
          clear hT'
          unfold BrdV.cells at *
          go_wp2
          exact lik_call y (Nat.le_refl _) ⟨_, _, _, _, _, _, rfl⟩ HS7.out 2 3 (by decide) rfl rfl hx (c.1, (y.world.heap.size, w')) (by show max c.1.2.heap.size w'.heap.size ≤ w'.heap.size; omega) (φ := Ext wr w' ∧ wr.heap.size ≤ y.world.heap.size ∧ TrnF b _ _ y.world.heap.size w') ⟨hX.trans hx, hzs, HV.out⟩ (by first | (simp [upd, updv, h1, h12, hL, u1]; done) | (simp [upd, updv, h1, h12, hL, u1]; rfl))
        rw [u7]
        go_simp
        with_reducible refine hK _ ?_
        clear hK K
        refine lx_next 3 (by rfl) (by decide) ?_
        dsimp only [List.take, List.drop]
        repeat (go_big_quiet_step (fail))
        refine wpQuiet_nil ?_
        refine lx_loud (by rfl) (by kernel_rfl) ?_ (fun K hK => ?_)
        · intro L w3 hL hd hcl hC hs
          obtain ⟨y, rfl⟩ := hC
          obtain ⟨c, hmc, hs⟩ := hs
          have hzs := y.size
          have h12 := hcl.off hL 40 12 (by kernel_rfl)
          simp only [hL, h12, cond_false] at hs
          go_wp2
          exact lik_set y (Nat.le_refl _) ⟨_, rfl⟩ hs 4 (r' := Res.blk y.world.heap.size #[.int .i64 0, .int .i64 0, .slice none 0 0, .slice none 0 0, .slice none 0 0, .int .i64 0]) rfl (((Ext.refl y.world).alloc _).chg _) (Blk.new _ _ _) (fun k hk => .inr (by rw [show k = y.world.heap.size from hk]; simp)) c hmc (by first | (simp [upd, updv, h12, hL]; done) | (simp [upd, updv, h12, hL]; rfl))
        rw [u11]
        go_simp
        with_reducible refine hK _ ?_
        clear hK K
        refine lx_loud (by rfl) (by kernel_rfl) ?_ (fun K hK => ?_)
        · intro L w3 hL hd hcl hC hs
          obtain ⟨y, rfl⟩ := hC
          obtain ⟨c, hmc, hs⟩ := hs
          have hzs := y.size
          have h7 := hcl.on 40 (hd 9 (by kernel_rfl)) (j := 9) (i := 7) (by kernel_rfl)
          have h11 := hd 11 (by kernel_rfl)
          simp only [hL, h11, h7, cond_true, cond_false] at hs
          rw [u11] at hs
          have hb : Blk y.world k11 #[.int .i64 0, .int .i64 0, .slice none 0 0, .slice none 0 0, .slice none 0 0, .int .i64 0] := hs.get 4 rfl
          have hlt := hb.lt
          have q0 := hb.cell 0 (v := .int .i64 0) rfl
          have f0 := hb.frozen 0
          have q1 := hb.cell 1 (v := .int .i64 0) rfl
          have f1 := hb.frozen 1
          have q2 := hb.cell 2 (v := .slice none 0 0) rfl
          have f2 := hb.frozen 2
          have q3 := hb.cell 3 (v := .slice none 0 0) rfl
          have f3 := hb.frozen 3
          have q4 := hb.cell 4 (v := .slice none 0 0) rfl
          have f4 := hb.frozen 4
          have q5 := hb.cell 5 (v := .int .i64 0) rfl
          have f5 := hb.frozen 5
          go_wp2
          exact lik_set y (Nat.le_refl _) trivial hs 4 rfl (six_chg (fun k => k = k11) _ rfl _ _ _ _ _ _) (r' := Res.blk k11 #[.int .i64 b.eye, .int .i64 b.bull, .slice s1 b.rings.length s4, .slice s2 b.lines.length s5, .slice s3 b.nums.length s6, .int .i64 b.wire]) (six_set hb _ _ _ _ _ _) (fun _ hk => .inl hk) c hmc (by first | (simp [upd, updv, h7, h11, hL, u7, u11, aggAt, ptrAt]; done) | (simp [upd, updv, h7, h11, hL, u7, u11, aggAt, ptrAt]; rfl))
        go_simp
        with_reducible refine hK _ ?_
        clear hK K
        refine lx_next 1 (by rfl) (by decide) ?_
        dsimp only [List.take, List.drop]
        repeat (go_big_quiet_step (fail))
        refine wpQuiet_nil ?_
        refine lx_nil ?_
        intro y hs
        obtain ⟨c, hmc, hs⟩ := hs
        rw [u1, u7, u11] at hs
        have hmc2 : max c.1.2.heap.size c.2.2.heap.size ≤ y.world.heap.size := hmc
        have hX : Ext wr y.world := Chg.to_ext (Ext.refl wr) y.chg (by rintro i ⟨_, h⟩; exact h)
        have hp1 : Ext wr c.1.2 ∧ wr.heap.size ≤ c.1.1 ∧ BoaF b tb (.agg #[.int .i64 b.eye, .int .i64 b.bull, .slice p1 b.rings.length p4, .slice p2 b.lines.length p5, .slice p3 b.nums.length p6, .int .i64 b.wire]) c.1.1 c.1.2 := hs.get 1 rfl
        have hp7 : Ext wr c.2.2 ∧ wr.heap.size ≤ c.2.1 ∧ TrnF b (.agg #[.int .i64 b.eye, .int .i64 b.bull, .slice p1 b.rings.length p4, .slice p2 b.lines.length p5, .slice p3 b.nums.length p6, .int .i64 b.wire]) (.tuple #[.agg #[.int .i64 b.eye, .int .i64 b.bull, .slice s1 b.rings.length s4, .slice s2 b.lines.length s5, .slice s3 b.nums.length s6, .int .i64 b.wire], .int .i64 0]) c.2.1 c.2.2 := hs.get 3 rfl
        have hbk : Blk y.world k11 #[.int .i64 b.eye, .int .i64 b.bull, .slice s1 b.rings.length s4, .slice s2 b.lines.length s5, .slice s3 b.nums.length s6, .int .i64 b.wire] := hs.get 4 rfl
        have hr1 := hp1.2.2.chg (snap_chg (hs.get 0 rfl) hp1.1 hX (by omega)) (fun k hk => hk.2)
        have hr7 := hp7.2.2.chg (snap_chg (hs.get 2 rfl) hp7.1 hX (by omega)) (fun k hk => hk.2)
        have hBB := trn_join hr1 hr7 HTR2.out HTL2.out
        have HBBk := Lib.hid hBB
        have HBK17 := Lib.hid hbk
        have HX17 := Lib.hid (HX6r.out.trans hX)
        generalize y.world = W17 at *
        clear hs hp1 hp7 hr1 hr7 hBB hbk hmc hmc2 hT hne u1 u7 u11 hX
        have HB417 := Lib.hid (HB4W.out.ext HX17.out)
        have HBB17 := Lib.hid (HBB.out.ext HX17.out)
        have z0 := HBK17.out.cell 0 (v := .int .i64 b.eye) rfl
        have z1 := HBK17.out.cell 1 (v := .int .i64 b.bull) rfl
        have z2 := HBK17.out.cell 2 (v := .slice s1 b.rings.length s4) rfl
        have z3 := HBK17.out.cell 3 (v := .slice s2 b.lines.length s5) rfl
        have z4 := HBK17.out.cell 4 (v := .slice s3 b.nums.length s6) rfl
        have z5 := HBK17.out.cell 5 (v := .int .i64 b.wire) rfl
        have zl := HBK17.out.lt
        have m0 := HB417.out.cell 0 (v := .int .i64 b.eye) rfl
        have m1 := HB417.out.cell 1 (v := .int .i64 b.bull) rfl
        have m2 := HB417.out.cell 2 (v := .slice a1 b.rings.length a4) rfl
        have m3 := HB417.out.cell 3 (v := .slice a2 b.lines.length a5) rfl
        have m4 := HB417.out.cell 4 (v := .slice a3 b.nums.length a6) rfl
        have m5 := HB417.out.cell 5 (v := .int .i64 b.wire) rfl
        have ml := HB417.out.lt
        go_wp2_with fail
        refine (law_same ⟨s1, s2, s3, s4, s5, s6⟩ ⟨a1, a2, a3, a4, a5, a6⟩ b b _ HBBk.out HBB17.out HSM.out).mono ?_
        rintro e w18 ⟨rfl, hx18⟩
        rw [same_self]
        go_wp2_with fail
        refine (law_known _).mono ?_
        rintro e w19 ⟨rfl, hx19⟩
        have HXE := Lib.hid ((((HXw.out.trans HX3W.out).trans HX17.out).trans hx18).trans hx19)
        clear hx18 hx19
        go_wp2
        go_ret
        exact ⟨rfl, HXE.out⟩
end Go.Proofs.Ytlkbbcfbnbnagaa
