/-
  The statement BoardHolds.
-/
import Derived.Test.YtlkbbcfbnbnagaaLbh
namespace Go.Proofs.Ytlkbbcfbnbnagaa
open Go.RowKit Go.BigFrame
attribute [local go_sem] Later.cell Later.frozen Lat.cell Lat.frozen
set_option maxRecDepth 100000 in
set_option maxHeartbeats 8000000 in
theorem law_BoardHolds (x : Mad) (ra la : Option Addr) (rc lc : Nat) (v0 v1 s0 s1 t0 t1 : Int) (hf : x.fits) (h0 : 0 ≤ v0 ∧ v0 ≤ 65535) (h1 : 0 ≤ v1 ∧ v1 ≤ 65535) (hs0 : 0 ≤ s0 ∧ s0 ≤ 255) (hs1 : 0 ≤ s1 ∧ s1 ≤ 255) (ht0 : 0 ≤ t0 ∧ t0 ≤ 255) (ht1 : 0 ≤ t1 ∧ t1 ≤ 255) (w : World) (hr : CellsAt w .u8 ra x.rings) (hl : CellsAt w .u8 la x.lines) (hrl : x.rings.length ≤ maxLen) (hll : x.lines.length ≤ maxLen) :
    Calls Try.prog 4 #[.agg #[.slice ra x.rings.length rc, .slice la x.lines.length lc, .int .u8 x.first, .int .u8 x.wire, .int .u16 v0, .int .u16 v1, .int .u8 s0, .int .u8 s1, .int .u8 t0, .int .u8 t1]] w fun e w' => e = .returned (.bool true) ∧ Ext w w' := by
  have HM := Lib.hid (fun W (hx : Ext w W) => law_made x ra la rc lc W hf (hr.ext hx) (hl.ext hx) hrl hll)
  have HP := Lib.hid (fun W => law_point v0 v1 h0 h1 W)
  have HE := Lib.hid (made_ok x hf)
  have HSM := Lib.hid (made_small x)
  generalize madeB x = b at *
  unfold Mad.cells at *
  obtain ⟨px, hpx⟩ : ∃ c, v0 % 2501 - 1250 = c := ⟨_, rfl⟩
  obtain ⟨py, hpy⟩ : ∃ c, v1 % 2501 - 1250 = c := ⟨_, rfl⟩
  have p0 : -1250 ≤ px ∧ px ≤ 1250 := by omega
  have p1 : -1250 ≤ py ∧ py ≤ 1250 := by omega
  rw [hpx, hpy] at HP
  obtain ⟨S0, hS0⟩ : ∃ c, s0 % 30 = c := ⟨_, rfl⟩
  obtain ⟨S1, hS1⟩ : ∃ c, s1 % 30 = c := ⟨_, rfl⟩
  have q0 : 0 ≤ S0 ∧ S0 ≤ 29 := by omega
  have q1 : 0 ≤ S1 ∧ S1 ≤ 29 := by omega
  have z0 : ¬ (S0 + 1 = 0) := by omega
  have z1 : ¬ (S1 + 1 = 0) := by omega
  have HT0 := Lib.hid (⟨Int.tmod_nonneg _ ht0.1, by have := Int.tmod_lt_of_pos t0 (b := S0 + 1) (by omega); omega⟩ : 0 ≤ t0.tmod (S0 + 1) ∧ t0.tmod (S0 + 1) ≤ S0)
  have HT1 := Lib.hid (⟨Int.tmod_nonneg _ ht1.1, by have := Int.tmod_lt_of_pos t1 (b := S1 + 1) (by omega); omega⟩ : 0 ≤ t1.tmod (S1 + 1) ∧ t1.tmod (S1 + 1) ≤ S1)
  obtain ⟨T0, hT0⟩ : ∃ c, t0.tmod (S0 + 1) = c := ⟨_, rfl⟩
  obtain ⟨T1, hT1⟩ : ∃ c, t1.tmod (S1 + 1) = c := ⟨_, rfl⟩
  rw [hT0] at HT0
  rw [hT1] at HT1
  have HS0 := Lib.hid hS0
  have HS1 := Lib.hid hS1
  have HT0e := Lib.hid hT0
  have HT1e := Lib.hid hT1
  obtain ⟨p00, p01⟩ := p0
  obtain ⟨p10, p11⟩ := p1
  obtain ⟨q00, q01⟩ := q0
  obtain ⟨q10, q11⟩ := q1
  obtain ⟨s00, s01⟩ := hs0
  obtain ⟨s10, s11⟩ := hs1
  obtain ⟨t00, t01⟩ := ht0
  obtain ⟨t10, t11⟩ := ht1
  clear hf h0 h1 hr hl hrl hll hpx hpy hS0 hS1 hT0 hT1
  go_enter Try.func4, Try.ntmps4
  go_upto_region 1 with fail
  obtain ⟨w0, hw0⟩ : ∃ y, y = w.alloc (.cells #[.slice ra x.rings.length rc, .slice la x.lines.length lc, .int .u8 x.first, .int .u8 x.wire, .int .u16 v0, .int .u16 v1, .int .u8 s0, .int .u8 s1, .int .u8 t0, .int .u8 t1] 50) := ⟨_, rfl⟩
  rw [← hw0]
  have hx0 : Ext w w0 := by rw [hw0]; exact (Ext.refl w).alloc _
  have hby : Blk w0 w.heap.size #[.slice ra x.rings.length rc, .slice la x.lines.length lc, .int .u8 x.first, .int .u8 x.wire, .int .u16 v0, .int .u16 v1, .int .u8 s0, .int .u8 s1, .int .u8 t0, .int .u8 t1] := by rw [hw0]; exact Blk.new _ _ _
  have x0 := hby.cell 0 (v := .slice ra x.rings.length rc) rfl
  have x1 := hby.cell 1 (v := .slice la x.lines.length lc) rfl
  have x2 := hby.cell 2 (v := .int .u8 x.first) rfl
  have x3 := hby.cell 3 (v := .int .u8 x.wire) rfl
  have x4 := hby.cell 4 (v := .int .u16 v0) rfl
  have x5 := hby.cell 5 (v := .int .u16 v1) rfl
  have x6 := hby.cell 6 (v := .int .u8 s0) rfl
  have x7 := hby.cell 7 (v := .int .u8 s1) rfl
  have x8 := hby.cell 8 (v := .int .u8 t0) rfl
  have x9 := hby.cell 9 (v := .int .u8 t1) rfl
  have xl := hby.lt
  have hwn : ¬ (w0.heap.size ≤ w.heap.size) := by omega
  have HX0 := Lib.hid hx0
  clear hw0 hx0 hby
  refine wp_region_calls (by kernel_rfl) [.no, .no, .no, .no, .no, .no, .no, .no, .ptr, .ptr, .ptr, .ptr, .any, .any, .any, .any] w0.heap.size (fun (c : Unit) => 0)
    (fun (c : Unit) L u => [bif L 8 then Res.blk (ptrAt (u 8)) (bif L 12 then #[.slice ra x.rings.length rc, .slice la x.lines.length lc, .int .u8 x.first, .int .u8 x.wire] else #[.slice none 0 0, .slice none 0 0, .int .u8 0, .int .u8 0]) else Res.none, bif L 9 then Res.blk (ptrAt (u 9)) (bif L 13 then #[.int .u16 v0, .int .u16 v1] else #[.int .u16 0, .int .u16 0]) else Res.none, bif L 10 then Res.blk (ptrAt (u 10)) (bif L 14 then #[.int .u8 s0, .int .u8 s1] else #[.int .u8 0, .int .u8 0]) else Res.none, bif L 11 then Res.blk (ptrAt (u 11)) (bif L 15 then #[.int .u8 t0, .int .u8 t1] else #[.int .u8 0, .int .u8 0]) else Res.none])
    () (by kernel_rfl) (Nat.le_of_ble_eq_true rfl) (fun c L L' u hh => by simp only [hh 8 rfl, hh 9 rfl, hh 10 rfl, hh 11 rfl, hh 12 rfl, hh 13 rfl, hh 14 rfl, hh 15 rfl]) (by simp) (fun _ => Frm.nones _ 4 w0) ?_
  intro T hT hne u hu
  obtain ⟨kx, u8⟩ : ∃ k, u 8 = .pointer (some ⟨k, 0, none⟩) := hu 8 rfl
  obtain ⟨kv, u9⟩ : ∃ k, u 9 = .pointer (some ⟨k, 0, none⟩) := hu 9 rfl
  obtain ⟨ks, u10⟩ : ∃ k, u 10 = .pointer (some ⟨k, 0, none⟩) := hu 10 rfl
  obtain ⟨kt, u11⟩ : ∃ k, u 11 = .pointer (some ⟨k, 0, none⟩) := hu 11 rfl
  clear hu
  refine lx_next 8 (by rfl) (by decide) ?_
  dsimp only [List.take, List.drop]
  repeat (go_big_quiet_step (fail))
  refine wpQuiet_nil ?_
  refine lx_loud (by rfl) (by kernel_rfl) ?_ (fun K hK => ?_)
  · intro L w3 hL hd hcl hC hs
    obtain ⟨y, rfl⟩ := hC
    obtain ⟨c, hmc, hs⟩ := hs
    have hzs := y.size
    have h12 := hcl.off hL 40 12 (by kernel_rfl)
    simp only [hL, h12, cond_false] at hs
    go_wp2
    exact lik_set y (Nat.le_refl _) ⟨_, rfl⟩ hs 0 (r' := Res.blk y.world.heap.size #[.slice none 0 0, .slice none 0 0, .int .u8 0, .int .u8 0]) rfl (((Ext.refl y.world).alloc _).chg _) (Blk.new _ _ _) (fun k hk => .inr (by rw [show k = y.world.heap.size from hk]; simp)) c hmc (by first | (simp [upd, updv, hL, h12]; done) | (simp [upd, updv, hL, h12]; rfl))
  rw [u8]
  go_simp
  with_reducible refine hK _ ?_
  clear hK K
  refine lx_loud (by rfl) (by kernel_rfl) ?_ (fun K hK => ?_)
  · intro L w3 hL hd hcl hC hs
    obtain ⟨y, rfl⟩ := hC
    obtain ⟨c, hmc, hs⟩ := hs
    have hzs := y.size
    have h13 := hcl.off hL 40 13 (by kernel_rfl)
    simp only [hL, h13, cond_false] at hs
    go_wp2
    exact lik_set y (Nat.le_refl _) ⟨_, rfl⟩ hs 1 (r' := Res.blk y.world.heap.size #[.int .u16 0, .int .u16 0]) rfl (((Ext.refl y.world).alloc _).chg _) (Blk.new _ _ _) (fun k hk => .inr (by rw [show k = y.world.heap.size from hk]; simp)) c hmc (by first | (simp [upd, updv, hL, h13]; done) | (simp [upd, updv, hL, h13]; rfl))
  rw [u9]
  go_simp
  with_reducible refine hK _ ?_
  clear hK K
  refine lx_loud (by rfl) (by kernel_rfl) ?_ (fun K hK => ?_)
  · intro L w3 hL hd hcl hC hs
    obtain ⟨y, rfl⟩ := hC
    obtain ⟨c, hmc, hs⟩ := hs
    have hzs := y.size
    have h14 := hcl.off hL 40 14 (by kernel_rfl)
    simp only [hL, h14, cond_false] at hs
    go_wp2
    exact lik_set y (Nat.le_refl _) ⟨_, rfl⟩ hs 2 (r' := Res.blk y.world.heap.size #[.int .u8 0, .int .u8 0]) rfl (((Ext.refl y.world).alloc _).chg _) (Blk.new _ _ _) (fun k hk => .inr (by rw [show k = y.world.heap.size from hk]; simp)) c hmc (by first | (simp [upd, updv, hL, h14]; done) | (simp [upd, updv, hL, h14]; rfl))
  rw [u10]
  go_simp
  with_reducible refine hK _ ?_
  clear hK K
  refine lx_loud (by rfl) (by kernel_rfl) ?_ (fun K hK => ?_)
  · intro L w3 hL hd hcl hC hs
    obtain ⟨y, rfl⟩ := hC
    obtain ⟨c, hmc, hs⟩ := hs
    have hzs := y.size
    have h15 := hcl.off hL 40 15 (by kernel_rfl)
    simp only [hL, h15, cond_false] at hs
    go_wp2
    exact lik_set y (Nat.le_refl _) ⟨_, rfl⟩ hs 3 (r' := Res.blk y.world.heap.size #[.int .u8 0, .int .u8 0]) rfl (((Ext.refl y.world).alloc _).chg _) (Blk.new _ _ _) (fun k hk => .inr (by rw [show k = y.world.heap.size from hk]; simp)) c hmc (by first | (simp [upd, updv, hL, h15]; done) | (simp [upd, updv, hL, h15]; rfl))
  rw [u11]
  go_simp
  with_reducible refine hK _ ?_
  clear hK K
  refine lx_loud (by rfl) (by kernel_rfl) ?_ (fun K hK => ?_)
  · intro L w3 hL hd hcl hC hs
    obtain ⟨y, rfl⟩ := hC
    obtain ⟨c, hmc, hs⟩ := hs
    have hzs := y.size
    have h8 := hd 8 (by kernel_rfl)
    simp only [hL, h8, cond_true, cond_false] at hs
    rw [u8] at hs
    have hb : Blk y.world kx #[.slice none 0 0, .slice none 0 0, .int .u8 0, .int .u8 0] := hs.get 0 rfl
    have hlt := hb.lt
    have q0 := hb.cell 0 (v := .slice none 0 0) rfl
    have f0 := hb.frozen 0
    have q1 := hb.cell 1 (v := .slice none 0 0) rfl
    have f1 := hb.frozen 1
    have q2 := hb.cell 2 (v := .int .u8 0) rfl
    have f2 := hb.frozen 2
    have q3 := hb.cell 3 (v := .int .u8 0) rfl
    have f3 := hb.frozen 3
    go_wp2
    exact lik_set y (Nat.le_refl _) trivial hs 0 rfl (four_chg (fun k => k = kx) _ rfl _ _ _ _ ) (r' := Res.blk kx #[.slice ra x.rings.length rc, .slice la x.lines.length lc, .int .u8 x.first, .int .u8 x.wire]) (four_set hb _ _ _ _ ) (fun _ hk => .inl hk) c hmc (by first | (simp [upd, updv, hL, h8, u8, ptrAt]; done) | (simp [upd, updv, hL, h8, u8, ptrAt]; rfl))
  go_simp
  with_reducible refine hK _ ?_
  clear hK K
  refine lx_loud (by rfl) (by kernel_rfl) ?_ (fun K hK => ?_)
  · intro L w3 hL hd hcl hC hs
    obtain ⟨y, rfl⟩ := hC
    obtain ⟨c, hmc, hs⟩ := hs
    have hzs := y.size
    have h9 := hd 9 (by kernel_rfl)
    simp only [hL, h9, cond_true, cond_false] at hs
    rw [u9] at hs
    have hb : Blk y.world kv #[.int .u16 0, .int .u16 0] := hs.get 1 rfl
    have hlt := hb.lt
    have q0 := hb.cell 0 (v := .int .u16 0) rfl
    have f0 := hb.frozen 0
    have q1 := hb.cell 1 (v := .int .u16 0) rfl
    have f1 := hb.frozen 1
    go_wp2
    exact lik_set y (Nat.le_refl _) trivial hs 1 rfl (two_chg (fun k => k = kv) _ rfl _ _ ) (r' := Res.blk kv #[.int .u16 v0, .int .u16 v1]) (two_set hb _ _ ) (fun _ hk => .inl hk) c hmc (by first | (simp [upd, updv, hL, h9, u9, ptrAt]; done) | (simp [upd, updv, hL, h9, u9, ptrAt]; rfl))
  go_simp
  with_reducible refine hK _ ?_
  clear hK K
  refine lx_loud (by rfl) (by kernel_rfl) ?_ (fun K hK => ?_)
  · intro L w3 hL hd hcl hC hs
    obtain ⟨y, rfl⟩ := hC
    obtain ⟨c, hmc, hs⟩ := hs
    have hzs := y.size
    have h10 := hd 10 (by kernel_rfl)
    simp only [hL, h10, cond_true, cond_false] at hs
    rw [u10] at hs
    have hb : Blk y.world ks #[.int .u8 0, .int .u8 0] := hs.get 2 rfl
    have hlt := hb.lt
    have q0 := hb.cell 0 (v := .int .u8 0) rfl
    have f0 := hb.frozen 0
    have q1 := hb.cell 1 (v := .int .u8 0) rfl
    have f1 := hb.frozen 1
    go_wp2
    exact lik_set y (Nat.le_refl _) trivial hs 2 rfl (two_chg (fun k => k = ks) _ rfl _ _ ) (r' := Res.blk ks #[.int .u8 s0, .int .u8 s1]) (two_set hb _ _ ) (fun _ hk => .inl hk) c hmc (by first | (simp [upd, updv, hL, h10, u10, ptrAt]; done) | (simp [upd, updv, hL, h10, u10, ptrAt]; rfl))
  go_simp
  with_reducible refine hK _ ?_
  clear hK K
  refine lx_loud (by rfl) (by kernel_rfl) ?_ (fun K hK => ?_)
  · intro L w3 hL hd hcl hC hs
    obtain ⟨y, rfl⟩ := hC
    obtain ⟨c, hmc, hs⟩ := hs
    have hzs := y.size
    have h11 := hd 11 (by kernel_rfl)
    simp only [hL, h11, cond_true, cond_false] at hs
    rw [u11] at hs
    have hb : Blk y.world kt #[.int .u8 0, .int .u8 0] := hs.get 3 rfl
    have hlt := hb.lt
    have q0 := hb.cell 0 (v := .int .u8 0) rfl
    have f0 := hb.frozen 0
    have q1 := hb.cell 1 (v := .int .u8 0) rfl
    have f1 := hb.frozen 1
    go_wp2
    exact lik_set y (Nat.le_refl _) trivial hs 3 rfl (two_chg (fun k => k = kt) _ rfl _ _ ) (r' := Res.blk kt #[.int .u8 t0, .int .u8 t1]) (two_set hb _ _ ) (fun _ hk => .inl hk) c hmc (by first | (simp [upd, updv, hL, h11, u11, ptrAt]; done) | (simp [upd, updv, hL, h11, u11, ptrAt]; rfl))
  go_simp
  with_reducible refine hK _ ?_
  clear hK K
  refine lx_nil ?_
  intro y hs
  obtain ⟨c, hmc, hs⟩ := hs
  rw [u8, u9, u10, u11] at hs
  have hX : Ext w0 y.world := Chg.to_ext (Ext.refl w0) y.chg (by rintro i ⟨_, h⟩; exact h)
  have hmc2 : 0 ≤ y.world.heap.size := hmc
  have hbkx : Blk y.world kx #[.slice ra x.rings.length rc, .slice la x.lines.length lc, .int .u8 x.first, .int .u8 x.wire] := hs.get 0 rfl
  have hlkx := hs.lt 0 rfl kx rfl
  have hbkv : Blk y.world kv #[.int .u16 v0, .int .u16 v1] := hs.get 1 rfl
  have hlkv := hs.lt 1 rfl kv rfl
  have hbks : Blk y.world ks #[.int .u8 s0, .int .u8 s1] := hs.get 2 rfl
  have hlks := hs.lt 2 rfl ks rfl
  have hbkt : Blk y.world kt #[.int .u8 t0, .int .u8 t1] := hs.get 3 rfl
  have hlkt := hs.lt 3 rfl kt rfl
  have hne_kx_kv : kx ≠ kv := fun e => hs.parts 0 1 _ _ rfl rfl (by decide) kx rfl e
  have hne_kx_ks : kx ≠ ks := fun e => hs.parts 0 2 _ _ rfl rfl (by decide) kx rfl e
  have hne_kx_kt : kx ≠ kt := fun e => hs.parts 0 3 _ _ rfl rfl (by decide) kx rfl e
  have hne_kv_ks : kv ≠ ks := fun e => hs.parts 1 2 _ _ rfl rfl (by decide) kv rfl e
  have hne_kv_kt : kv ≠ kt := fun e => hs.parts 1 3 _ _ rfl rfl (by decide) kv rfl e
  have hne_ks_kt : ks ≠ kt := fun e => hs.parts 2 3 _ _ rfl rfl (by decide) ks rfl e
  clear hs  hmc hmc2 hT hne u8 u9 u10 u11
  generalize y.world = w1 at *
  clear x0 x1 x2 x3 x4 x5 x6 x7 x8 x9 xl hwn
  have HX1 := Lib.hid (HX0.out.trans hX)
  have HKX := Lib.hid hbkx
  have HKV := Lib.hid hbkv
  have HKS := Lib.hid hbks
  have HKT := Lib.hid hbkt
  have hwx := hlkx.2
  have hwv := hlkv.2
  have hwnx : ¬ (w1.heap.size ≤ kx) := by omega
  have hwnv : ¬ (w1.heap.size ≤ kv) := by omega
  have x0 := HKX.out.cell 0 (v := .slice ra x.rings.length rc) rfl
  have x1 := HKX.out.cell 1 (v := .slice la x.lines.length lc) rfl
  have x2 := HKX.out.cell 2 (v := .int .u8 x.first) rfl
  have x3 := HKX.out.cell 3 (v := .int .u8 x.wire) rfl
  have xl := HKX.out.lt
  have y0 := HKV.out.cell 0 (v := .int .u16 v0) rfl
  have y1 := HKV.out.cell 1 (v := .int .u16 v1) rfl
  have yl := HKV.out.lt
  clear hX hbkx hbkv hbks hbkt hlkx hlkv hlks hlkt
  go_upto_region 2 with fail
  refine wp_region_calls (by kernel_rfl) [.no, .of (BoaS b) (boaW b) (boaW_ok b), .no, .no, .ptr, .ptr, .any, .any] w1.heap.size (fun (c : (Nat × World)) => c.2.heap.size)
    (fun (c : (Nat × World)) L u => [bif L 1 then Res.snap c else Res.none, bif L 1 then Res.pure (Ext w1 c.2 ∧ w1.heap.size ≤ c.1 ∧ BoaV b (u 1) c.1 c.2) else Res.none, bif L 4 then Res.blk (ptrAt (u 4)) (bif L 6 then #[aggAt 0 (u 1), aggAt 1 (u 1), aggAt 2 (u 1), aggAt 3 (u 1), aggAt 4 (u 1), aggAt 5 (u 1)] else #[.int .i64 0, .int .i64 0, .slice none 0 0, .slice none 0 0, .slice none 0 0, .int .i64 0]) else Res.none, bif L 5 then Res.blk (ptrAt (u 5)) (bif L 7 then #[.int .i64 px, .int .i64 py] else #[.int .i64 0, .int .i64 0]) else Res.none])
    (0, w1) (by kernel_rfl) (Nat.le_of_ble_eq_true rfl) (fun c L L' u hh => by simp only [hh 1 rfl, hh 4 rfl, hh 5 rfl, hh 6 rfl, hh 7 rfl]) (by simp) (fun _ => Frm.nones _ 4 w1) ?_
  intro T hT hne u hu
  obtain ⟨a1, a2, a3, a4, a5, a6, u1⟩ : BoaS b (u 1) := hu 1 rfl
  obtain ⟨k7, u4⟩ : ∃ k, u 4 = .pointer (some ⟨k, 0, none⟩) := hu 4 rfl
  obtain ⟨k8, u5⟩ : ∃ k, u 5 = .pointer (some ⟨k, 0, none⟩) := hu 5 rfl
  clear hu
  refine lx_next 1 (by rfl) (by decide) ?_
  dsimp only [List.take, List.drop]
  repeat (go_big_quiet_step (fail))
  refine wpQuiet_nil ?_
  refine lx_loud (by rfl) (by kernel_rfl) ?_ (fun K hK => ?_)
  · intro L w3 hL hd hcl hC hs
    obtain ⟨y, rfl⟩ := hC
    obtain ⟨c, hmc, hs⟩ := hs
    have hzs := y.size
    have h6 := hcl.off hL 40 6 (by kernel_rfl)
    simp only [hL, h6, cond_false] at hs
    have hX : Ext w1 y.world := Chg.to_ext (Ext.refl w1) y.chg (by rintro i ⟨_, h⟩; exact h)
    have hmc2 : c.2.heap.size ≤ y.world.heap.size := hmc
    have HS1 := Lib.hid hs
    clear hs
    go_wp2_with fail
    refine (HM.out _ (HX1.out.trans hX)).mono ?_
    rintro e w' ⟨v', rfl, hB, hN, hfr, hx⟩
    have hsz' := hx.size
    have hV : BoaV b (.agg (v'.cells b)) y.world.heap.size w' := ⟨v', rfl, hB, hN, hfr⟩
    obtain ⟨d1, d2, d3, e1, e2, e3⟩ := v'
    have HV := Lib.hid hV
    clear hV hB hN hfr
    unfold BrdV.cells at *
    simp only at *
    go_wp2
    exact lik_call y (Nat.le_refl _) ⟨_, _, _, _, _, _, rfl⟩ HS1.out 0 1 (by decide) rfl rfl hx (y.world.heap.size, w') (by show w'.heap.size ≤ w'.heap.size; omega) (φ := Ext w1 w' ∧ w1.heap.size ≤ y.world.heap.size ∧ BoaV b _ y.world.heap.size w') ⟨hX.trans hx, hzs, HV.out⟩ (by first | (simp [upd, updv, hL, h6]; done) | (simp [upd, updv, hL, h6]; rfl))
  rw [u1]
  go_simp
  with_reducible refine hK _ ?_
  clear hK K
  refine lx_next 2 (by rfl) (by decide) ?_
  dsimp only [List.take, List.drop]
  repeat (go_big_quiet_step (refine Calls.lat hT (HP.out _)))
  refine wpQuiet_nil ?_
  refine lx_loud (by rfl) (by kernel_rfl) ?_ (fun K hK => ?_)
  · intro L w3 hL hd hcl hC hs
    obtain ⟨y, rfl⟩ := hC
    obtain ⟨c, hmc, hs⟩ := hs
    have hzs := y.size
    have h6 := hcl.off hL 40 6 (by kernel_rfl)
    simp only [hL, h6, cond_false] at hs
    go_wp2
    exact lik_set y (Nat.le_refl _) ⟨_, rfl⟩ hs 2 (r' := Res.blk y.world.heap.size #[.int .i64 0, .int .i64 0, .slice none 0 0, .slice none 0 0, .slice none 0 0, .int .i64 0]) rfl (((Ext.refl y.world).alloc _).chg _) (Blk.new _ _ _) (fun k hk => .inr (by rw [show k = y.world.heap.size from hk]; simp)) c hmc (by first | (simp [upd, updv, hL, h6]; done) | (simp [upd, updv, hL, h6]; rfl))
  rw [u4]
  go_simp
  with_reducible refine hK _ ?_
  clear hK K
  refine lx_loud (by rfl) (by kernel_rfl) ?_ (fun K hK => ?_)
  · intro L w3 hL hd hcl hC hs
    obtain ⟨y, rfl⟩ := hC
    obtain ⟨c, hmc, hs⟩ := hs
    have hzs := y.size
    have h7 := hcl.off hL 40 7 (by kernel_rfl)
    simp only [hL, h7, cond_false] at hs
    go_wp2
    exact lik_set y (Nat.le_refl _) ⟨_, rfl⟩ hs 3 (r' := Res.blk y.world.heap.size #[.int .i64 0, .int .i64 0]) rfl (((Ext.refl y.world).alloc _).chg _) (Blk.new _ _ _) (fun k hk => .inr (by rw [show k = y.world.heap.size from hk]; simp)) c hmc (by first | (simp [upd, updv, hL, h7]; done) | (simp [upd, updv, hL, h7]; rfl))
  rw [u5]
  go_simp
  with_reducible refine hK _ ?_
  clear hK K
  refine lx_loud (by rfl) (by kernel_rfl) ?_ (fun K hK => ?_)
  · intro L w3 hL hd hcl hC hs
    obtain ⟨y, rfl⟩ := hC
    obtain ⟨c, hmc, hs⟩ := hs
    have hzs := y.size
    have h4 := hd 4 (by kernel_rfl)
    have h1 := hd 1 (by kernel_rfl)
    simp only [hL, h4, h1, cond_true, cond_false] at hs
    rw [u4] at hs
    have hb : Blk y.world k7 #[.int .i64 0, .int .i64 0, .slice none 0 0, .slice none 0 0, .slice none 0 0, .int .i64 0] := hs.get 2 rfl
    have hlt := hb.lt
    have q0 := hb.cell 0 (v := .int .i64 0) rfl
    have f0 := hb.frozen 0
    have q1 := hb.cell 1 (v := .int .i64 0) rfl
    have f1 := hb.frozen 1
    have q2 := hb.cell 2 (v := .slice none 0 0) rfl
    have f2 := hb.frozen 2
    have q3 := hb.cell 3 (v := .slice none 0 0) rfl
    have f3 := hb.frozen 3
    have q4 := hb.cell 4 (v := .slice none 0 0) rfl
    have f4 := hb.frozen 4
    have q5 := hb.cell 5 (v := .int .i64 0) rfl
    have f5 := hb.frozen 5
    go_wp2
    exact lik_set y (Nat.le_refl _) trivial hs 2 rfl (six_chg (fun k => k = k7) _ rfl _ _ _ _ _ _ ) (r' := Res.blk k7 #[.int .i64 b.eye, .int .i64 b.bull, .slice a1 b.rings.length a4, .slice a2 b.lines.length a5, .slice a3 b.nums.length a6, .int .i64 b.wire]) (six_set hb _ _ _ _ _ _ ) (fun _ hk => .inl hk) c hmc (by first | (simp [upd, updv, hL, h4, h1, u4, u1, aggAt, ptrAt]; done) | (simp [upd, updv, hL, h4, h1, u4, u1, aggAt, ptrAt]; rfl))
  go_simp
  with_reducible refine hK _ ?_
  clear hK K
  refine lx_loud (by rfl) (by kernel_rfl) ?_ (fun K hK => ?_)
  · intro L w3 hL hd hcl hC hs
    obtain ⟨y, rfl⟩ := hC
    obtain ⟨c, hmc, hs⟩ := hs
    have hzs := y.size
    have h5 := hd 5 (by kernel_rfl)
    simp only [hL, h5, cond_true, cond_false] at hs
    rw [u5] at hs
    have hb : Blk y.world k8 #[.int .i64 0, .int .i64 0] := hs.get 3 rfl
    have hlt := hb.lt
    have q0 := hb.cell 0 (v := .int .i64 0) rfl
    have f0 := hb.frozen 0
    have q1 := hb.cell 1 (v := .int .i64 0) rfl
    have f1 := hb.frozen 1
    go_wp2
    exact lik_set y (Nat.le_refl _) trivial hs 3 rfl (two_chg (fun k => k = k8) _ rfl _ _ ) (r' := Res.blk k8 #[.int .i64 px, .int .i64 py]) (two_set hb _ _ ) (fun _ hk => .inl hk) c hmc (by first | (simp [upd, updv, hL, h5, u5, ptrAt]; done) | (simp [upd, updv, hL, h5, u5, ptrAt]; rfl))
  go_simp
  with_reducible refine hK _ ?_
  clear hK K
  refine lx_nil ?_
  intro y hs
  obtain ⟨c, hmc, hs⟩ := hs
  rw [u1, u4, u5] at hs
  have hX : Ext w1 y.world := Chg.to_ext (Ext.refl w1) y.chg (by rintro i ⟨_, h⟩; exact h)
  have hmc2 : c.2.heap.size ≤ y.world.heap.size := hmc
  have hp1 : Ext w1 c.2 ∧ w1.heap.size ≤ c.1 ∧ BoaV b (.agg #[.int .i64 b.eye, .int .i64 b.bull, .slice a1 b.rings.length a4, .slice a2 b.lines.length a5, .slice a3 b.nums.length a6, .int .i64 b.wire]) c.1 c.2 := hs.get 1 rfl
  have hr1 := hp1.2.2.chg (snap_chg (hs.get 0 rfl) hp1.1 hX (by omega)) (fun k hk => hk.2)
  have hsl1 := hp1.2.1
  have hbk7 : Blk y.world k7 #[.int .i64 b.eye, .int .i64 b.bull, .slice a1 b.rings.length a4, .slice a2 b.lines.length a5, .slice a3 b.nums.length a6, .int .i64 b.wire] := hs.get 2 rfl
  have hlk7 := hs.lt 2 rfl k7 rfl
  have hbk8 : Blk y.world k8 #[.int .i64 px, .int .i64 py] := hs.get 3 rfl
  have hlk8 := hs.lt 3 rfl k8 rfl
  have hne_k7_k8 : k7 ≠ k8 := fun e => hs.parts 2 3 _ _ rfl rfl (by decide) k7 rfl e
  generalize c.1 = sz1 at *
  clear hs hp1 hmc hmc2 hT hne u1 u4 u5
  generalize y.world = w2 at *
  have HX2 := Lib.hid (HX1.out.trans hX)
  have HK7 := Lib.hid hbk7
  have HK8 := Lib.hid hbk8
  have HKS2 := Lib.hid (HKS.out.ext hX)
  have HKT2 := Lib.hid (HKT.out.ext hX)


  clear x0 x1 x2 x3 xl y0 y1 yl hwx hwv hwnx hwnv hX hbk7 hbk8 hlk7 hlk8 HP HM
  obtain ⟨v', e, hB, hN, -⟩ := hr1
  obtain ⟨d1, d2, d3, e1, e2, e3⟩ := v'
  unfold BrdV.cells at e
  simp only [Value.agg.injEq, Array.mk.injEq, List.cons.injEq, Value.slice.injEq, true_and, and_true] at e
  obtain ⟨⟨rfl, rfl⟩, ⟨rfl, rfl⟩, rfl, rfl⟩ := e
  have HB := Lib.hid hB
  have HN := Lib.hid hN
  clear hB hN hsl1
  have x0 := HK8.out.cell 0 (v := .int .i64 px) rfl
  have x1 := HK8.out.cell 1 (v := .int .i64 py) rfl
  have xl := HK8.out.lt
  have y0 := HKS2.out.cell 0 (v := .int .u8 s0) rfl
  have y1 := HKS2.out.cell 1 (v := .int .u8 s1) rfl
  have yl := HKS2.out.lt
  have hS0 := HS0.out
  have hS1 := HS1.out
  go_upto_region 4 with fail
  clear x0 x1 xl y0 y1 yl
  obtain ⟨W, hW⟩ : ∃ y, y = w2.alloc (.cells #[.int .i64 px, .int .i64 (px + S0), .int .i64 py, .int .i64 (py + S1)] 30) := ⟨_, rfl⟩
  rw [← hW]
  have hxW : Ext w2 W := by rw [hW]; exact (Ext.refl w2).alloc _
  have HB9 : Hid (Blk W w2.heap.size #[.int .i64 px, .int .i64 (px + S0), .int .i64 py, .int .i64 (py + S1)]) := Lib.hid (by rw [hW]; exact Blk.new _ _ _)
  have HB7 := Lib.hid (HK7.out.ext hxW)
  have HB8 := Lib.hid (HK8.out.ext hxW)
  have HKS3 := Lib.hid (HKS2.out.ext hxW)
  have HKT3 := Lib.hid (HKT2.out.ext hxW)
  have HBW := Lib.hid (HB.out.ext hxW)
  have HX3 := Lib.hid (HX2.out.trans hxW)

  generalize w2.heap.size = k9 at *
  have hbo := box_ok2 (x0 := px) (x1 := px + S0) (y0 := py) (y1 := py + S1) (by omega) (by omega) (by omega) (by omega) (by omega) (by omega) (by omega) (by omega)
  have HBE1 := Lib.hid (fun v W h => calls_beds v b ⟨px, px + S0, py, py + S1⟩ W h HSM.out HE.out hbo.1 hbo.2)
  obtain ⟨ls, hls⟩ : ∃ l, setL ((ptsL ⟨px, px + S0, py, py + S1⟩).map (bedB b)) = l := ⟨_, rfl⟩
  have HLS := Lib.hid hls
  rw [hls] at HBE1
  have hln : ls.length ≤ 500 := by rw [← hls, setL_cnt]; exact cntB_small _ _
  clear hls hbo hW hxW HK7 HK8 HKS2 HKT2 HB HX2 HX1 HX0 HKX HKV HKS HKT hne_kx_kv hne_kx_ks hne_kx_kt hne_kv_ks hne_kv_kt hne_ks_kt hne_k7_k8
  have m0 : ∀ y : Lat NoX W, y.world.cell? ⟨k7, 0, none⟩ = some (.int .i64 b.eye) := fun y => (HB7.out.ext (Lat.ext0 y)).cell 0 rfl
  have m1 : ∀ y : Lat NoX W, y.world.cell? ⟨k7, 1, none⟩ = some (.int .i64 b.bull) := fun y => (HB7.out.ext (Lat.ext0 y)).cell 1 rfl
  have m2 : ∀ y : Lat NoX W, y.world.cell? ⟨k7, 2, none⟩ = some (.slice a1 b.rings.length a4) := fun y => (HB7.out.ext (Lat.ext0 y)).cell 2 rfl
  have m3 : ∀ y : Lat NoX W, y.world.cell? ⟨k7, 3, none⟩ = some (.slice a2 b.lines.length a5) := fun y => (HB7.out.ext (Lat.ext0 y)).cell 3 rfl
  have m4 : ∀ y : Lat NoX W, y.world.cell? ⟨k7, 4, none⟩ = some (.slice a3 b.nums.length a6) := fun y => (HB7.out.ext (Lat.ext0 y)).cell 4 rfl
  have m5 : ∀ y : Lat NoX W, y.world.cell? ⟨k7, 5, none⟩ = some (.int .i64 b.wire) := fun y => (HB7.out.ext (Lat.ext0 y)).cell 5 rfl
  have n0 : ∀ y : Lat NoX W, y.world.cell? ⟨k9, 0, none⟩ = some (.int .i64 px) := fun y => (HB9.out.ext (Lat.ext0 y)).cell 0 rfl
  have n1 : ∀ y : Lat NoX W, y.world.cell? ⟨k9, 1, none⟩ = some (.int .i64 (px + S0)) := fun y => (HB9.out.ext (Lat.ext0 y)).cell 1 rfl
  have n2 : ∀ y : Lat NoX W, y.world.cell? ⟨k9, 2, none⟩ = some (.int .i64 py) := fun y => (HB9.out.ext (Lat.ext0 y)).cell 2 rfl
  have n3 : ∀ y : Lat NoX W, y.world.cell? ⟨k9, 3, none⟩ = some (.int .i64 (py + S1)) := fun y => (HB9.out.ext (Lat.ext0 y)).cell 3 rfl
  refine wp_region_ext (by kernel_rfl) [.no, .boa b b, .no, .lst ls] (by kernel_rfl) (Nat.le_of_ble_eq_true rfl) ?_
  intro T hT hne u hu
  obtain ⟨p1, p2, p3, p4, p5, p6, u1⟩ : BoaS b (u 1) := hu 1 rfl
  obtain ⟨la, lc, u3⟩ : LstS ls (u 3) := hu 3 rfl
  clear hu
  refine lx_next 1 (by rfl) (by decide) ?_
  dsimp only [List.take, List.drop]
  repeat (go_big_quiet_step (fail))
  refine wpQuiet_nil ?_
  refine lx_loud (by rfl) (by kernel_rfl) ?_ (fun K hK => ?_)
  · intro L w3 hL hd hcl hC hs
    obtain ⟨y, rfl⟩ := hC
    have hxy := Lat.ext0 y

    go_wp2_with fail
    refine (law_own ⟨a1, a2, a3, a4, a5, a6⟩ b _ (HBW.out.ext hxy) HN.out HSM.out).mono ?_
    rintro e w' ⟨v', rfl, hB', hN', -, hx⟩
    have HRK := Lib.hid (rik_call (i := 1) y hs ⟨_, _, _, _, _, _, rfl⟩ hx ⟨_, rfl, hB', hN'⟩)
    clear hs
    go_wp2
    exact HRK.out
  rw [u1]
  go_simp
  with_reducible refine hK _ ?_
  clear hK K
  refine lx_next 1 (by rfl) (by decide) ?_
  dsimp only [List.take, List.drop]
  repeat (go_big_quiet_step (fail))
  refine wpQuiet_nil ?_
  refine lx_loud (by rfl) (by kernel_rfl) ?_ (fun K hK => ?_)
  · intro L w3 hL hd hcl hC hs
    obtain ⟨y, rfl⟩ := hC
    have hxy := Lat.ext0 y
    have h1 := hs 1 rfl (hd 1 (by kernel_rfl))
    rw [u1] at h1
    obtain ⟨hB1, hN1⟩ := BoaT.at h1
    go_wp2_with fail
    refine (HBE1.out ⟨p1, p2, p3, p4, p5, p6⟩ _ hB1).mono ?_
    rintro e w' ⟨xa, xc, rfl, hcl, hx⟩
    have HRK := Lib.hid (rik_call (i := 3) y hs ⟨xa, xc, rfl⟩ hx ⟨xa, xc, rfl, hcl⟩)
    clear hs
    go_wp2
    exact HRK.out
  rw [u3]
  go_simp
  with_reducible refine hK _ ?_
  clear hK K
  refine lx_next 5 (by rfl) (by decide) ?_
  dsimp only [List.take, List.drop]
  repeat (go_big_quiet_step (fail))
  refine wpQuiet_nil ?_
  refine lx_nil ?_
  intro y hs
  have hxy := Lat.ext0 y
  have h3 := hs 3 rfl rfl
  rw [u3] at h3
  have HL1 := Lib.hid h3.at
  have HB74 := Lib.hid (HB7.out.ext hxy)
  have HB84 := Lib.hid (HB8.out.ext hxy)
  have HB94 := Lib.hid (HB9.out.ext hxy)
  have HKS4 := Lib.hid (HKS3.out.ext hxy)
  have HKT4 := Lib.hid (HKT3.out.ext hxy)
  have HBW4 := Lib.hid (HBW.out.ext hxy)
  have HX4 := Lib.hid (HX3.out.trans hxy)
  generalize y.world = W4 at *
  clear hs hxy m0 m1 m2 m3 m4 m5 n0 n1 n2 n3 hT hne u1 u3 h3 HB7 HB8 HB9 HKS3 HKT3 HBW HX3
  go_upto_region 5 with fail
  have x0 := HB84.out.cell 0 (v := .int .i64 px) rfl
  have x1 := HB84.out.cell 1 (v := .int .i64 py) rfl
  have xl := HB84.out.lt
  have y0 := HKS4.out.cell 0 (v := .int .u8 s0) rfl
  have y1 := HKS4.out.cell 1 (v := .int .u8 s1) rfl
  have yl := HKS4.out.lt
  have z0 := HKT4.out.cell 0 (v := .int .u8 t0) rfl
  have z1 := HKT4.out.cell 1 (v := .int .u8 t1) rfl
  have zl := HKT4.out.lt
  have xn : ¬ (W4.heap.size ≤ k8) := by omega
  have yn : ¬ (W4.heap.size ≤ ks) := by omega
  have zn : ¬ (W4.heap.size ≤ kt) := by omega
  have hT0 := HT0e.out
  have hT1 := HT1e.out
  obtain ⟨T00, T01⟩ := HT0.out
  obtain ⟨T10, T11⟩ := HT1.out
  refine wp_region_calls (by kernel_rfl) [.no, .no, .no, .no, .no, .no, .no, .no, .no, .no, .no, .no, .no, .no, .no, .no, .no, .no, .no, .no, .no, .no, .no, .no, .no, .ptr, .any] W4.heap.size (fun (c : Unit) => 0)
    (fun (c : Unit) L u => [bif L 25 then Res.blk (ptrAt (u 25)) (bif L 26 then #[.int .i64 (px + T0), .int .i64 (py + T1)] else #[.int .i64 0, .int .i64 0]) else Res.none])
    () (by kernel_rfl) (Nat.le_of_ble_eq_true rfl) (fun c L L' u hh => by simp only [hh 25 rfl, hh 26 rfl]) (by simp) (fun _ => Frm.nones _ 1 W4) ?_
  intro T hT hne u hu
  obtain ⟨k12, u25⟩ : ∃ k, u 25 = .pointer (some ⟨k, 0, none⟩) := hu 25 rfl
  clear hu
  refine lx_next 25 (by rfl) (by decide) ?_
  dsimp only [List.take, List.drop]
  repeat (go_big_quiet_step (fail))
  refine wpQuiet_nil ?_
  refine lx_loud (by rfl) (by kernel_rfl) ?_ (fun K hK => ?_)
  · intro L w3 hL hd hcl hC hs
    obtain ⟨y, rfl⟩ := hC
    obtain ⟨c, hmc, hs⟩ := hs
    have hzs := y.size
    have h26 := hcl.off hL 40 26 (by kernel_rfl)
    simp only [hL, h26, cond_false] at hs
    go_wp2
    exact lik_set y (Nat.le_refl _) ⟨_, rfl⟩ hs 0 (r' := Res.blk y.world.heap.size #[.int .i64 0, .int .i64 0]) rfl (((Ext.refl y.world).alloc _).chg _) (Blk.new _ _ _) (fun k hk => .inr (by rw [show k = y.world.heap.size from hk]; simp)) c hmc (by first | (simp [upd, updv, hL, h26]; done) | (simp [upd, updv, hL, h26]; rfl))
  rw [u25]
  go_simp
  with_reducible refine hK _ ?_
  clear hK K
  refine lx_loud (by rfl) (by kernel_rfl) ?_ (fun K hK => ?_)
  · intro L w3 hL hd hcl hC hs
    obtain ⟨y, rfl⟩ := hC
    obtain ⟨c, hmc, hs⟩ := hs
    have hzs := y.size
    have h25 := hd 25 (by kernel_rfl)
    simp only [hL, h25, cond_true, cond_false] at hs
    rw [u25] at hs
    have hb : Blk y.world k12 #[.int .i64 0, .int .i64 0] := hs.get 0 rfl
    have hlt := hb.lt
    have q0 := hb.cell 0 (v := .int .i64 0) rfl
    have f0 := hb.frozen 0
    have q1 := hb.cell 1 (v := .int .i64 0) rfl
    have f1 := hb.frozen 1
    go_wp2
    exact lik_set y (Nat.le_refl _) trivial hs 0 rfl (two_chg (fun k => k = k12) _ rfl _ _ ) (r' := Res.blk k12 #[.int .i64 (px + T0), .int .i64 (py + T1)]) (two_set hb _ _ ) (fun _ hk => .inl hk) c hmc (by first | (simp [upd, updv, hL, h25, u25, ptrAt]; done) | (simp [upd, updv, hL, h25, u25, ptrAt]; rfl))
  go_simp
  with_reducible refine hK _ ?_
  clear hK K
  refine lx_nil ?_
  intro y hs
  obtain ⟨c, hmc, hs⟩ := hs
  rw [u25] at hs
  have hX : Ext W4 y.world := Chg.to_ext (Ext.refl W4) y.chg (by rintro i ⟨_, h⟩; exact h)
  have hmc2 : 0 ≤ y.world.heap.size := hmc
  have hbk12 : Blk y.world k12 #[.int .i64 (px + T0), .int .i64 (py + T1)] := hs.get 0 rfl
  have hlk12 := hs.lt 0 rfl k12 rfl
  clear hs  hmc hmc2 hT hne u25
  generalize y.world = W5 at *
  have HB75 := Lib.hid (HB74.out.ext hX)
  have HB95 := Lib.hid (HB94.out.ext hX)
  have HBW5 := Lib.hid (HBW4.out.ext hX)
  have HL5 := Lib.hid (HL1.out.ext hX)
  have HX5 := Lib.hid (HX4.out.trans hX)
  have HK12 := Lib.hid hbk12
  have hpt := ptB_of (p := ⟨px + T0, py + T1⟩) (by show _ ≤ px + T0 ∧ px + T0 ≤ _; omega) (by show _ ≤ py + T1 ∧ py + T1 ≤ _; omega)
  have HBD := Lib.hid (fun v W h => calls_bed v b ⟨px + T0, py + T1⟩ W h HSM.out HE.out hpt)
  have HIN : Hid (bedB b ⟨px + T0, py + T1⟩ ∈ ls) := Lib.hid (by rw [← HLS.out]; exact beds_in (errB_good HSM.out HE.out) ((ptsL_mem _ _).2 ⟨⟨by show px ≤ px + T0; omega, by show px + T0 ≤ px + S0; omega⟩, by show py ≤ py + T1; omega, by show py + T1 ≤ py + S1; omega⟩))
  obtain ⟨A, hA⟩ : ∃ c, bedB b ⟨px + T0, py + T1⟩ = c := ⟨_, rfl⟩
  obtain ⟨wi, hwi⟩ : ∃ c, onWire b ⟨px + T0, py + T1⟩ = c := ⟨_, rfl⟩
  rw [hA, hwi] at HBD
  rw [hA] at HIN
  clear hA hwi hpt hX x0 x1 xl y0 y1 yl z0 z1 zl xn yn zn hT0 hT1 hbk12 hlk12 HB74 HB84 HB94 HKS4 HKT4 HBW4 HL1 HX4
  go_upto_region 6 with fail
  have m0 : ∀ y : Lat NoX W5, y.world.cell? ⟨k7, 0, none⟩ = some (.int .i64 b.eye) := fun y => (HB75.out.ext (Lat.ext0 y)).cell 0 rfl
  have m1 : ∀ y : Lat NoX W5, y.world.cell? ⟨k7, 1, none⟩ = some (.int .i64 b.bull) := fun y => (HB75.out.ext (Lat.ext0 y)).cell 1 rfl
  have m2 : ∀ y : Lat NoX W5, y.world.cell? ⟨k7, 2, none⟩ = some (.slice a1 b.rings.length a4) := fun y => (HB75.out.ext (Lat.ext0 y)).cell 2 rfl
  have m3 : ∀ y : Lat NoX W5, y.world.cell? ⟨k7, 3, none⟩ = some (.slice a2 b.lines.length a5) := fun y => (HB75.out.ext (Lat.ext0 y)).cell 3 rfl
  have m4 : ∀ y : Lat NoX W5, y.world.cell? ⟨k7, 4, none⟩ = some (.slice a3 b.nums.length a6) := fun y => (HB75.out.ext (Lat.ext0 y)).cell 4 rfl
  have m5 : ∀ y : Lat NoX W5, y.world.cell? ⟨k7, 5, none⟩ = some (.int .i64 b.wire) := fun y => (HB75.out.ext (Lat.ext0 y)).cell 5 rfl
  have n0 : ∀ y : Lat NoX W5, y.world.cell? ⟨k12, 0, none⟩ = some (.int .i64 (px + T0)) := fun y => (HK12.out.ext (Lat.ext0 y)).cell 0 rfl
  have n1 : ∀ y : Lat NoX W5, y.world.cell? ⟨k12, 1, none⟩ = some (.int .i64 (py + T1)) := fun y => (HK12.out.ext (Lat.ext0 y)).cell 1 rfl
  refine wp_region_ext (by kernel_rfl) [.no, .boa b b, .no, .val (.tuple #[.int .i64 A, .bool wi, .int .i64 0])] (by kernel_rfl) (Nat.le_of_ble_eq_true rfl) ?_
  intro T hT hne u hu
  obtain ⟨p1, p2, p3, p4, p5, p6, u1⟩ : BoaS b (u 1) := hu 1 rfl
  have u3 : u 3 = .tuple #[.int .i64 A, .bool wi, .int .i64 0] := hu 3 rfl
  clear hu
  refine lx_next 1 (by rfl) (by decide) ?_
  dsimp only [List.take, List.drop]
  repeat (go_big_quiet_step (fail))
  refine wpQuiet_nil ?_
  refine lx_loud (by rfl) (by kernel_rfl) ?_ (fun K hK => ?_)
  · intro L w3 hL hd hcl hC hs
    obtain ⟨y, rfl⟩ := hC
    have hxy := Lat.ext0 y

    go_wp2_with fail
    refine (law_own ⟨a1, a2, a3, a4, a5, a6⟩ b _ (HBW5.out.ext hxy) HN.out HSM.out).mono ?_
    rintro e w' ⟨v', rfl, hB', hN', -, hx⟩
    have HRK := Lib.hid (rik_call (i := 1) y hs ⟨_, _, _, _, _, _, rfl⟩ hx ⟨_, rfl, hB', hN'⟩)
    clear hs
    go_wp2
    exact HRK.out
  rw [u1]
  go_simp
  with_reducible refine hK _ ?_
  clear hK K
  refine lx_next 1 (by rfl) (by decide) ?_
  dsimp only [List.take, List.drop]
  repeat (go_big_quiet_step (fail))
  refine wpQuiet_nil ?_
  refine lx_loud (by rfl) (by kernel_rfl) ?_ (fun K hK => ?_)
  · intro L w3 hL hd hcl hC hs
    obtain ⟨y, rfl⟩ := hC
    have hxy := Lat.ext0 y
    have h1 := hs 1 rfl (hd 1 (by kernel_rfl))
    rw [u1] at h1
    obtain ⟨hB1, hN1⟩ := BoaT.at h1
    go_wp2_with fail
    refine (HBD.out ⟨p1, p2, p3, p4, p5, p6⟩ _ hB1).mono ?_
    rintro e w' ⟨rfl, hx⟩
    have HRK := Lib.hid (rik_call (i := 3) y hs rfl hx trivial)
    clear hs
    go_wp2
    exact HRK.out
  rw [u3]
  go_simp
  with_reducible refine hK _ ?_
  clear hK K
  refine lx_next 7 (by rfl) (by decide) ?_
  dsimp only [List.take, List.drop]
  repeat (go_big_quiet_step (fail))
  refine wpQuiet_nil ?_
  refine lx_nil ?_
  intro y hs
  have hxy := Lat.ext0 y
  have HB76 := Lib.hid (HB75.out.ext hxy)
  have HB96 := Lib.hid (HB95.out.ext hxy)
  have HBW6 := Lib.hid (HBW5.out.ext hxy)
  have HL6 := Lib.hid (HL5.out.ext hxy)
  have HX6 := Lib.hid (HX5.out.trans hxy)
  generalize y.world = W6 at *
  clear hs hxy m0 m1 m2 m3 m4 m5 n0 n1 hT hne u1 u3 HB75 HB95 HBW5 HL5 HX5 hS0 hS1
  go_upto_block 0 with fail
  go_cut [16, 17] from 108 to 122 (fun t _ wx => t = .bool true ∧ wx = W6)
  case first =>
    go_wp2
    go_loopw [16, 17] (fun t i wr => ∃ k : Nat, k ≤ ls.length ∧ t = .bool ((ls.take k).contains A) ∧ i = .int .i64 k ∧ wr = W6) (fun _ i _ => ls.length - (intOf i).toNat)
    case atStart => exact ⟨0, Nat.zero_le _, rfl, rfl, rfl⟩
    case round =>
      obtain ⟨k, hk, rfl, rfl, rfl⟩ := hrel
      by_cases hlt : k < ls.length
      · have HCK := Lib.hid (contains_take A hlt)
        obtain ⟨gb, go, e, c0⟩ := HL6.out k hlt
        have c1 := lt_of_cell c0
        simp only at c1
        subst e
        obtain ⟨z, hz⟩ : ∃ z, ls[k] = z := ⟨_, rfl⟩
        rw [hz] at c0 HCK
        generalize (ls.take k).contains A = cc at *
        clear hz
        cases hzm : (z == A) <;> cases cc
        all_goals
          rw [hzm] at HCK
          go_wp2
          go_roundw
          case rel => exact ⟨k + 1, by omega, by rw [HCK.out]; rfl, by go_num, by first | trivial | rfl⟩
          case measure => simp [intOf]; omega
      · obtain rfl : k = ls.length := by omega
        have hin : (ls.take ls.length).contains A = true := by rw [List.take_of_length_le (Nat.le_refl _)]; exact List.contains_iff_mem.2 HIN.out
        rw [hin]
        go_wp2
        go_meet
        exact ⟨rfl, rfl⟩
  case rest =>
    obtain ⟨rfl, rfl⟩ := hcut
    rename_i K0 a0
    refine a0 _ _ ?_
    have e := HLS.out
    subst e
    exact hold_tail _ (by kernel_rfl) b a1 a2 a3 _ a4 a5 a6 _ k7 k9 px py S0 S1 w _ HX6 HE HSM ⟨p00, p01⟩ ⟨p10, p11⟩ ⟨q00, q01⟩ ⟨q10, q11⟩ HBW6 HN HL6 HB76 HB96
end Go.Proofs.Ytlkbbcfbnbnagaa
