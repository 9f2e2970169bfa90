/-
  BoardTurns.
-/
import Derived.Test.YtlkbbcfbnbnagaaGreatRwf
import Derived.Test.YtlkbbcfbnbnagaaGreatLbd
import Derived.Test.YtlkbbcfbnbnagaaGreatLbb
namespace Go.Proofs.YtlkbbcfbnbnagaaGreat
open Go.RowKit Go.BigFrame
attribute [local go_sem] Later.cell Later.frozen Lat.cell Lat.frozen
set_option maxRecDepth 100000 in
set_option maxHeartbeats 16000000 in
theorem law_BoardTurns (a1 a2 a3 : Option Addr) (a4 a5 a6 : Nat) (b : Brd) (worn : List Int) (wks : List (List Int)) (turn lim : Int) (wa ka : Option Addr) (wc kc : Nat) (w : World) (h : BrdAt w ⟨a1, a2, a3, a4, a5, a6⟩ b) (hn : BrdNil ⟨a1, a2, a3, a4, a5, a6⟩ b) (hl : b.rings.length ≤ maxLen ∧ b.lines.length ≤ maxLen ∧ b.nums.length ≤ maxLen)
    (hw : CellsAt w .i64 wa worn) (hwn : wa = none → worn.length = 0 ∧ wc = 0) (hwl : worn.length ≤ maxLen) (hk : WkC w ka wks) (hkl : wks.length ≤ maxLen) (hks : ∀ wk ∈ wks, wk.length ≤ maxLen) :
    Calls Tryz.prog 4 #[.agg #[.int .i64 b.eye, .int .i64 b.bull, .slice a1 b.rings.length a4, .slice a2 b.lines.length a5, .slice a3 b.nums.length a6, .int .i64 b.wire], .agg #[.slice wa worn.length wc, .slice ka wks.length kc, .int .i64 turn, .int .i64 lim]] w fun e w' => e = .returned (.bool true) ∧ Ext w w' := by
  have HB := Lib.hid h
  have HN := Lib.hid hn
  have HW := Lib.hid hw
  have HWN := Lib.hid hwn
  have HG := Lib.hid (fun W (hx : Ext w W) => law_great ⟨a1, a2, a3, a4, a5, a6⟩ b W (h.ext hx) hl)
  have HBG := Lib.hid (fun W (hx : Ext w W) => law_big ⟨worn, wks, turn, lim⟩ wa ka wc kc W (hk.ext hx) hkl hwl hks)
  obtain ⟨ua, uc, hu1, hu2, hu3⟩ := law_week ⟨worn, wks, turn, lim⟩ wa ka wc kc w hk hkl
  have HBN := Lib.hid (fun h => big_not (x := ⟨worn, wks, turn, lim⟩) h)
  simp only at hu1 hu2 hu3 HBG HBN
  have HU := Lib.hid hu1
  have HUN := Lib.hid hu2
  have HWK := Lib.hid hu3
  have HKS : Hid ((∀ wk ∈ wks, wk.length ≤ 25) → (wks.headD []).length ≤ 25) := Lib.hid (fun h => by
    cases hx : wks with
    | nil => simp
    | cons y r => rw [hx] at h; exact h y (by simp))
  generalize wks.headD [] = wk at *
  generalize bigW ⟨worn, wks, turn, lim⟩ = bg at *
  unfold BrdV.cells at HG
  clear h hn hl hw hwn hk hkl hks hu1 hu2 hu3
  go_enter Tryz.func4, Tryz.ntmps4
  go_wp2_with fail
  refine (HG.out _ (((Ext.refl w).alloc _).alloc _)).mono ?_
  rintro e w1 ⟨rfl, hx⟩
  have HX := Lib.hid (Ext.trans (((Ext.refl w).alloc _).alloc _) hx)
  have HBB : Hid (Blk w1 w.heap.size #[.int .i64 b.eye, .int .i64 b.bull, .slice a1 b.rings.length a4, .slice a2 b.lines.length a5, .slice a3 b.nums.length a6, .int .i64 b.wire]) := Lib.hid (((Blk.new w _ _).alloc _).ext hx)
  have HBX : Hid (Blk w1 (w.heap.size + 1) #[.slice wa worn.length wc, .slice ka wks.length kc, .int .i64 turn, .int .i64 lim]) := Lib.hid ((Blk.at _ (by simp)).ext hx)
  clear hx
  have m0 := HBB.out.cell 0 (v := .int .i64 b.eye) rfl
  have m1 := HBB.out.cell 1 (v := .int .i64 b.bull) rfl
  have m2 := HBB.out.cell 2 (v := .slice a1 b.rings.length a4) rfl
  have m3 := HBB.out.cell 3 (v := .slice a2 b.lines.length a5) rfl
  have m4 := HBB.out.cell 4 (v := .slice a3 b.nums.length a6) rfl
  have m5 := HBB.out.cell 5 (v := .int .i64 b.wire) rfl
  have ml := HBB.out.lt
  have n0 := HBX.out.cell 0 (v := .slice wa worn.length wc) rfl
  have n1 := HBX.out.cell 1 (v := .slice ka wks.length kc) rfl
  have n2 := HBX.out.cell 2 (v := .int .i64 turn) rfl
  have n3 := HBX.out.cell 3 (v := .int .i64 lim) rfl
  have nl := HBX.out.lt
  have HKN := Lib.hid (fun W => law_known W)
  cases hgr : greatB b
  case true =>
    go_wp2_with fail
    refine (HKN.out _).mono ?_
    rintro e w2 ⟨rfl, hx⟩
    go_wp2_with fail
    go_ret
    exact ⟨rfl, HX.out.trans hx⟩
  case false =>
  have HSM := Lib.hid (small_of hgr)
  have HGT := Lib.hid (grt_of hgr)
  clear HG
  go_wp2_with fail
  refine (HBG.out _ HX.out).mono ?_
  rintro e w2 ⟨rfl, hx⟩
  replace HX := Lib.hid (HX.out.trans hx)
  replace HBB := Lib.hid (HBB.out.ext hx)
  replace HBX := Lib.hid (HBX.out.ext hx)
  clear hx m0 m1 m2 m3 m4 m5 ml n0 n1 n2 n3 nl
  have m0 := HBB.out.cell 0 (v := .int .i64 b.eye) rfl
  have m1 := HBB.out.cell 1 (v := .int .i64 b.bull) rfl
  have m2 := HBB.out.cell 2 (v := .slice a1 b.rings.length a4) rfl
  have m3 := HBB.out.cell 3 (v := .slice a2 b.lines.length a5) rfl
  have m4 := HBB.out.cell 4 (v := .slice a3 b.nums.length a6) rfl
  have m5 := HBB.out.cell 5 (v := .int .i64 b.wire) rfl
  have ml := HBB.out.lt
  have n0 := HBX.out.cell 0 (v := .slice wa worn.length wc) rfl
  have n1 := HBX.out.cell 1 (v := .slice ka wks.length kc) rfl
  have n2 := HBX.out.cell 2 (v := .int .i64 turn) rfl
  have n3 := HBX.out.cell 3 (v := .int .i64 lim) rfl
  have nl := HBX.out.lt
  cases bg
  case true =>
    go_wp2_with fail
    refine (HKN.out _).mono ?_
    rintro e w3 ⟨rfl, hx⟩
    go_wp2_with fail
    go_ret
    exact ⟨rfl, HX.out.trans hx⟩
  case false =>
  obtain ⟨hb1, hb2, hb3⟩ := HBN.out rfl
  have HL1 := Lib.hid hb1
  have HL2 := Lib.hid (HKS.out hb3)
  clear HBG hb1 hb2 hb3 HBN hgr HKS hwl
  go_upto_region 3 with fail
  refine wp_region_calls (by kernel_rfl) [.no, .of (BoaS b) (boaW b) (boaW_ok b), .no, .no, .of (fun v => ∃ a c, v = .slice a worn.length c) (.slice none worn.length 0) ⟨_, _, rfl⟩, .no, .of (fun v => v = .slice ua wk.length uc) (.slice ua wk.length uc) rfl, .of (fun v => ∃ a c, v = .slice a wk.length c) (.slice none wk.length 0) ⟨_, _, rfl⟩, .ptr, .any] w2.heap.size (fun (c : (Nat × World) × (Nat × World) × (Nat × World) × (Nat × World)) => max c.1.2.heap.size (max c.2.1.2.heap.size (max c.2.2.1.2.heap.size (c.2.2.2.2.heap.size))))
    (fun (c : (Nat × World) × (Nat × World) × (Nat × World) × (Nat × World)) L u => [bif L 1 then Res.snap c.1 else Res.none, bif L 1 then Res.pure (Ext w2 c.1.2 ∧ w2.heap.size ≤ c.1.1 ∧ BoaV b (u 1) c.1.1 c.1.2) else Res.none, bif L 4 then Res.snap c.2.1 else Res.none, bif L 4 then Res.pure (Ext w2 c.2.1.2 ∧ w2.heap.size ≤ c.2.1.1 ∧ RdF worn (u 4) c.2.1.1 c.2.1.2) else Res.none, bif L 6 then Res.snap c.2.2.1 else Res.none, bif L 6 then Res.pure (Ext w2 c.2.2.1.2 ∧ w2.heap.size ≤ c.2.2.1.1 ∧ AnyF (u 6) c.2.2.1.1 c.2.2.1.2) else Res.none, bif L 7 then Res.snap c.2.2.2 else Res.none, bif L 7 then Res.pure (Ext w2 c.2.2.2.2 ∧ w2.heap.size ≤ c.2.2.2.1 ∧ RdF wk (u 7) c.2.2.2.1 c.2.2.2.2) else Res.none, bif L 8 then Res.blk (ptrAt (u 8)) (bif L 9 then #[aggAt 0 (u 1), aggAt 1 (u 1), aggAt 2 (u 1), aggAt 3 (u 1), aggAt 4 (u 1), aggAt 5 (u 1)] else #[.int .i64 0, .int .i64 0, .slice none 0 0, .slice none 0 0, .slice none 0 0, .int .i64 0]) else Res.none])
    ((0, w2), (0, w2), (0, w2), (0, w2)) (by kernel_rfl) (Nat.le_of_ble_eq_true rfl) (fun c L L' u hh => by simp only [hh 1 rfl, hh 4 rfl, hh 6 rfl, hh 7 rfl, hh 8 rfl, hh 9 rfl]) (by simp) (fun _ => Frm.nones _ 9 w2) ?_
  intro T hT hne u hu
  obtain ⟨p1, p2, p3, p4, p5, p6, u1⟩ : BoaS b (u 1) := hu 1 rfl
  obtain ⟨va, vc, u4⟩ : ∃ a c, u 4 = .slice a worn.length c := hu 4 rfl
  have u6 : u 6 = .slice ua wk.length uc := hu 6 rfl
  obtain ⟨za, zc, u7⟩ : ∃ a c, u 7 = .slice a wk.length c := hu 7 rfl
  obtain ⟨k5, u8⟩ : ∃ k, u 8 = .pointer (some ⟨k, 0, none⟩) := hu 8 rfl
  clear hu
  refine lx_next 1 (by rfl) (by decide) ?_
  dsimp only [List.take, List.drop]
  repeat (go_big_quiet_step (fail))
  refine wpQuiet_nil ?_
  refine lx_loud (by rfl) (by kernel_rfl) ?_ (fun K hK => ?_)
  · intro L w3 hL hd hcl hC hs
    obtain ⟨y, rfl⟩ := hC
    obtain ⟨c, hmc, hs⟩ := hs
    have hzs := y.size
    have h9 := hcl.off hL 40 9 (by kernel_rfl)
    simp only [hL, h9, cond_false] at hs
    have hX : Ext w2 y.world := Chg.to_ext (Ext.refl w2) y.chg (by rintro i ⟨_, h⟩; exact h)
    have hmc2 : max c.1.2.heap.size (max c.2.1.2.heap.size (max c.2.2.1.2.heap.size (c.2.2.2.2.heap.size))) ≤ y.world.heap.size := hmc
    have HS1 := Lib.hid hs
    clear hs
    go_wp2_with fail
    refine (law_own ⟨a1, a2, a3, a4, a5, a6⟩ b _ (HB.out.ext (HX.out.trans hX)) HN.out HSM.out).mono ?_
    rintro e w' ⟨v', rfl, hB, hN, hfr, hx⟩
    have hsz' := hx.size
    have hV : BoaV b (.agg (v'.cells b)) y.world.heap.size w' := ⟨v', rfl, hB, hN, hfr⟩
    obtain ⟨d1, d2, d3, e1, e2, e3⟩ := v'
    have HV := Lib.hid hV
    clear hV hB hN hfr
    unfold BrdV.cells at *
    simp only at *
    go_wp2
    exact lik_call y (Nat.le_refl _) ⟨_, _, _, _, _, _, rfl⟩ HS1.out 0 1 (by decide) rfl rfl hx ((y.world.heap.size, w'), c.2.1, c.2.2.1, c.2.2.2) (by show max w'.heap.size (max c.2.1.2.heap.size (max c.2.2.1.2.heap.size (c.2.2.2.2.heap.size))) ≤ w'.heap.size; omega) (φ := Ext w2 w' ∧ w2.heap.size ≤ y.world.heap.size ∧ BoaV b _ y.world.heap.size w') ⟨hX.trans hx, hzs, HV.out⟩ (by first | (simp [upd, updv, hL, h9]; done) | (simp [upd, updv, hL, h9]; rfl))
  rw [u1]
  go_simp
  with_reducible refine hK _ ?_
  clear hK K
  refine lx_next 2 (by rfl) (by decide) ?_
  dsimp only [List.take, List.drop]
  repeat (go_big_quiet_step (fail))
  refine wpQuiet_nil ?_
  refine lx_loud (by rfl) (by kernel_rfl) ?_ (fun K hK => ?_)
  · intro L w3 hL hd hcl hC hs
    obtain ⟨y, rfl⟩ := hC
    obtain ⟨c, hmc, hs⟩ := hs
    have hzs := y.size
    simp only [hL, cond_false] at hs
    have hX : Ext w2 y.world := Chg.to_ext (Ext.refl w2) y.chg (by rintro i ⟨_, h⟩; exact h)
    have hmc2 : max c.1.2.heap.size (max c.2.1.2.heap.size (max c.2.2.1.2.heap.size (c.2.2.2.2.heap.size))) ≤ y.world.heap.size := hmc
    have HS4 := Lib.hid hs
    clear hs
    go_wp2_with fail
    refine (law_ints worn wa wc _ (HW.out.ext (HX.out.trans hX)) HWN.out (by have := HL1.out; omega)).mono ?_
    rintro e w' ⟨v', rfl, hO, hx⟩
    have hsz' := hx.size
    obtain ⟨e1, e2, rfl⟩ := own_shape hO
    have HV := Lib.hid (RdF.own hO (Nat.le_refl _))
    clear hO
    go_wp2
    exact lik_call y (Nat.le_refl _) ⟨_, _, rfl⟩ HS4.out 2 3 (by decide) rfl rfl hx (c.1, (y.world.heap.size, w'), c.2.2.1, c.2.2.2) (by show max c.1.2.heap.size (max w'.heap.size (max c.2.2.1.2.heap.size (c.2.2.2.2.heap.size))) ≤ w'.heap.size; omega) (φ := Ext w2 w' ∧ w2.heap.size ≤ y.world.heap.size ∧ RdF worn _ y.world.heap.size w') ⟨hX.trans hx, hzs, HV.out⟩ (by first | (simp [upd, updv, hL]; done) | (simp [upd, updv, hL]; rfl))
  rw [u4]
  go_simp
  with_reducible refine hK _ ?_
  clear hK K
  refine lx_next 1 (by rfl) (by decide) ?_
  dsimp only [List.take, List.drop]
  repeat (go_big_quiet_step (fail))
  refine wpQuiet_nil ?_
  refine lx_loud (by rfl) (by kernel_rfl) ?_ (fun K hK => ?_)
  · intro L w3 hL hd hcl hC hs
    obtain ⟨y, rfl⟩ := hC
    obtain ⟨c, hmc, hs⟩ := hs
    have hzs := y.size
    simp only [hL, cond_false] at hs
    have hX : Ext w2 y.world := Chg.to_ext (Ext.refl w2) y.chg (by rintro i ⟨_, h⟩; exact h)
    have hmc2 : max c.1.2.heap.size (max c.2.1.2.heap.size (max c.2.2.1.2.heap.size (c.2.2.2.2.heap.size))) ≤ y.world.heap.size := hmc
    have HS6 := Lib.hid hs
    clear hs
    go_wp2_with fail
    refine (HWK.out _ (HX.out.trans hX)).mono ?_
    rintro e w' ⟨rfl, hx⟩
    have hsz' := hx.size
    have HV : Hid (AnyF (.slice ua wk.length uc) y.world.heap.size w') := Lib.hid trivial
    go_wp2
    exact lik_call y (Nat.le_refl _) rfl HS6.out 4 5 (by decide) rfl rfl hx (c.1, c.2.1, (y.world.heap.size, w'), c.2.2.2) (by show max c.1.2.heap.size (max c.2.1.2.heap.size (max w'.heap.size (c.2.2.2.2.heap.size))) ≤ w'.heap.size; omega) (φ := Ext w2 w' ∧ w2.heap.size ≤ y.world.heap.size ∧ AnyF _ y.world.heap.size w') ⟨hX.trans hx, hzs, HV.out⟩ (by first | (simp [upd, updv, hL]; done) | (simp [upd, updv, hL]; rfl))
  rw [u6]
  go_simp
  with_reducible refine hK _ ?_
  clear hK K
  refine lx_loud (by rfl) (by kernel_rfl) ?_ (fun K hK => ?_)
  · intro L w3 hL hd hcl hC hs
    obtain ⟨y, rfl⟩ := hC
    obtain ⟨c, hmc, hs⟩ := hs
    have hzs := y.size
    simp only [hL, cond_false] at hs
    have hX : Ext w2 y.world := Chg.to_ext (Ext.refl w2) y.chg (by rintro i ⟨_, h⟩; exact h)
    have hmc2 : max c.1.2.heap.size (max c.2.1.2.heap.size (max c.2.2.1.2.heap.size (c.2.2.2.2.heap.size))) ≤ y.world.heap.size := hmc
    have HS7 := Lib.hid hs
    clear hs
    go_wp2_with fail
    refine (law_ints wk ua uc _ (HU.out.ext (HX.out.trans hX)) HUN.out (by have := HL2.out; omega)).mono ?_
    rintro e w' ⟨v', rfl, hO, hx⟩
    have hsz' := hx.size
    obtain ⟨e1, e2, rfl⟩ := own_shape hO
    have HV := Lib.hid (RdF.own hO (Nat.le_refl _))
    clear hO
    go_wp2
    exact lik_call y (Nat.le_refl _) ⟨_, _, rfl⟩ HS7.out 6 7 (by decide) rfl rfl hx (c.1, c.2.1, c.2.2.1, (y.world.heap.size, w')) (by show max c.1.2.heap.size (max c.2.1.2.heap.size (max c.2.2.1.2.heap.size (w'.heap.size))) ≤ w'.heap.size; omega) (φ := Ext w2 w' ∧ w2.heap.size ≤ y.world.heap.size ∧ RdF wk _ y.world.heap.size w') ⟨hX.trans hx, hzs, HV.out⟩ (by first | (simp [upd, updv, hL]; done) | (simp [upd, updv, hL]; rfl))
  rw [u7]
  go_simp
  with_reducible refine hK _ ?_
  clear hK K
  refine lx_loud (by rfl) (by kernel_rfl) ?_ (fun K hK => ?_)
  · intro L w3 hL hd hcl hC hs
    obtain ⟨y, rfl⟩ := hC
    obtain ⟨c, hmc, hs⟩ := hs
    have hzs := y.size
    have h9 := hcl.off hL 40 9 (by kernel_rfl)
    simp only [hL, h9, cond_false] at hs
    go_wp2
    exact lik_set y (Nat.le_refl _) ⟨_, rfl⟩ hs 8 (r' := Res.blk y.world.heap.size #[.int .i64 0, .int .i64 0, .slice none 0 0, .slice none 0 0, .slice none 0 0, .int .i64 0]) rfl (((Ext.refl y.world).alloc _).chg _) (Blk.new _ _ _) (fun k hk => .inr (by rw [show k = y.world.heap.size from hk]; simp)) c hmc (by first | (simp [upd, updv, hL, h9]; done) | (simp [upd, updv, hL, h9]; rfl))
  rw [u8]
  go_simp
  with_reducible refine hK _ ?_
  clear hK K
  refine lx_loud (by rfl) (by kernel_rfl) ?_ (fun K hK => ?_)
  · intro L w3 hL hd hcl hC hs
    obtain ⟨y, rfl⟩ := hC
    obtain ⟨c, hmc, hs⟩ := hs
    have hzs := y.size
    have h8 := hd 8 (by kernel_rfl)
    have h1 := hd 1 (by kernel_rfl)
    simp only [hL, h8, h1, cond_true, cond_false] at hs
    rw [u8] at hs
    have hb : Blk y.world k5 #[.int .i64 0, .int .i64 0, .slice none 0 0, .slice none 0 0, .slice none 0 0, .int .i64 0] := hs.get 8 rfl
    have hlt := hb.lt
    have q0 := hb.cell 0 (v := .int .i64 0) rfl
    have f0 := hb.frozen 0
    have q1 := hb.cell 1 (v := .int .i64 0) rfl
    have f1 := hb.frozen 1
    have q2 := hb.cell 2 (v := .slice none 0 0) rfl
    have f2 := hb.frozen 2
    have q3 := hb.cell 3 (v := .slice none 0 0) rfl
    have f3 := hb.frozen 3
    have q4 := hb.cell 4 (v := .slice none 0 0) rfl
    have f4 := hb.frozen 4
    have q5 := hb.cell 5 (v := .int .i64 0) rfl
    have f5 := hb.frozen 5
    go_wp2
    exact lik_set y (Nat.le_refl _) trivial hs 8 rfl (six_chg (fun k => k = k5) _ rfl _ _ _ _ _ _ ) (r' := Res.blk k5 #[.int .i64 b.eye, .int .i64 b.bull, .slice p1 b.rings.length p4, .slice p2 b.lines.length p5, .slice p3 b.nums.length p6, .int .i64 b.wire]) (six_set hb _ _ _ _ _ _ ) (fun _ hk => .inl hk) c hmc (by first | (simp [upd, updv, hL, h8, h1, u8, u1, aggAt, ptrAt]; done) | (simp [upd, updv, hL, h8, h1, u8, u1, aggAt, ptrAt]; rfl))
  go_simp
  with_reducible refine hK _ ?_
  clear hK K
  refine lx_next 2 (by rfl) (by decide) ?_
  dsimp only [List.take, List.drop]
  repeat (go_big_quiet_step (fail))
  refine wpQuiet_nil ?_
  refine lx_nil ?_
  intro y hs
  obtain ⟨c, hmc, hs⟩ := hs
  rw [u1, u4, u6, u7, u8] at hs
  have hX : Ext w2 y.world := Chg.to_ext (Ext.refl w2) y.chg (by rintro i ⟨_, h⟩; exact h)
  have hmc2 : max c.1.2.heap.size (max c.2.1.2.heap.size (max c.2.2.1.2.heap.size (c.2.2.2.2.heap.size))) ≤ y.world.heap.size := hmc
  have hp1 : Ext w2 c.1.2 ∧ w2.heap.size ≤ c.1.1 ∧ BoaV b (.agg #[.int .i64 b.eye, .int .i64 b.bull, .slice p1 b.rings.length p4, .slice p2 b.lines.length p5, .slice p3 b.nums.length p6, .int .i64 b.wire]) c.1.1 c.1.2 := hs.get 1 rfl
  have hr1 := hp1.2.2.chg (snap_chg (hs.get 0 rfl) hp1.1 hX (by omega)) (fun k hk => hk.2)
  have hsl1 := hp1.2.1
  have hp4 : Ext w2 c.2.1.2 ∧ w2.heap.size ≤ c.2.1.1 ∧ RdF worn (.slice va worn.length vc) c.2.1.1 c.2.1.2 := hs.get 3 rfl
  have hr4 := hp4.2.2.chg (snap_chg (hs.get 2 rfl) hp4.1 hX (by omega)) (fun k hk => hk.2)
  have hsl4 := hp4.2.1
  have hp6 : Ext w2 c.2.2.1.2 ∧ w2.heap.size ≤ c.2.2.1.1 ∧ AnyF (.slice ua wk.length uc) c.2.2.1.1 c.2.2.1.2 := hs.get 5 rfl
  have hr6 := hp6.2.2.chg (snap_chg (hs.get 4 rfl) hp6.1 hX (by omega)) (fun k hk => hk.2)
  have hsl6 := hp6.2.1
  have hp7 : Ext w2 c.2.2.2.2 ∧ w2.heap.size ≤ c.2.2.2.1 ∧ RdF wk (.slice za wk.length zc) c.2.2.2.1 c.2.2.2.2 := hs.get 7 rfl
  have hr7 := hp7.2.2.chg (snap_chg (hs.get 6 rfl) hp7.1 hX (by omega)) (fun k hk => hk.2)
  have hsl7 := hp7.2.1
  have hbk5 : Blk y.world k5 #[.int .i64 b.eye, .int .i64 b.bull, .slice p1 b.rings.length p4, .slice p2 b.lines.length p5, .slice p3 b.nums.length p6, .int .i64 b.wire] := hs.get 8 rfl
  have hlk5 := hs.lt 8 rfl k5 rfl
  generalize c.1.1 = sz1 at *
  generalize c.2.1.1 = sz4 at *
  generalize c.2.2.1.1 = sz6 at *
  generalize c.2.2.2.1 = sz7 at *
  clear hs hp1 hp4 hp6 hp7 hmc hmc2 hT hne u1 u4 u6 u7 u8
  generalize y.world = w3 at *
  have HBI := Lib.hid hbk5
  have HWC := Lib.hid hr4.rd
  have HKC := Lib.hid hr7.rd
  obtain ⟨v', e, hB, hN, -⟩ := hr1
  obtain ⟨d1, d2, d3, e1, e2, e3⟩ := v'
  unfold BrdV.cells at e
  simp only [Value.agg.injEq, Array.mk.injEq, List.cons.injEq, Value.slice.injEq, true_and, and_true] at e
  obtain ⟨⟨rfl, rfl⟩, ⟨rfl, rfl⟩, rfl, rfl⟩ := e
  have HIB := Lib.hid hB
  obtain ⟨-, -, -, hcap⟩ := hN
  have HCAP := Lib.hid hcap
  clear hB hbk5 hr4 hr7 hr6 hsl1 hsl4 hsl6 hsl7 hlk5 hcap
  replace HX := Lib.hid (HX.out.trans hX)
  replace HBB := Lib.hid (HBB.out.ext hX)
  replace HBX := Lib.hid (HBX.out.ext hX)
  clear hX m0 m1 m2 m3 m4 m5 ml n0 n1 n2 n3 nl
  have m0 := HBB.out.cell 0 (v := .int .i64 b.eye) rfl
  have m1 := HBB.out.cell 1 (v := .int .i64 b.bull) rfl
  have m2 := HBB.out.cell 2 (v := .slice a1 b.rings.length a4) rfl
  have m3 := HBB.out.cell 3 (v := .slice a2 b.lines.length a5) rfl
  have m4 := HBB.out.cell 4 (v := .slice a3 b.nums.length a6) rfl
  have m5 := HBB.out.cell 5 (v := .int .i64 b.wire) rfl
  have ml := HBB.out.lt
  have n0 := HBX.out.cell 0 (v := .slice wa worn.length wc) rfl
  have n1 := HBX.out.cell 1 (v := .slice ka wks.length kc) rfl
  have n2 := HBX.out.cell 2 (v := .int .i64 turn) rfl
  have n3 := HBX.out.cell 3 (v := .int .i64 lim) rfl
  have nl := HBX.out.lt
  have q0 := HBI.out.cell 0 (v := .int .i64 b.eye) rfl
  have q1 := HBI.out.cell 1 (v := .int .i64 b.bull) rfl
  have q2 := HBI.out.cell 2 (v := .slice p1 b.rings.length p4) rfl
  have q3 := HBI.out.cell 3 (v := .slice p2 b.lines.length p5) rfl
  have q4 := HBI.out.cell 4 (v := .slice p3 b.nums.length p6) rfl
  have q5 := HBI.out.cell 5 (v := .int .i64 b.wire) rfl
  have ql := HBI.out.lt
  have HTU := Lib.hid (fun W hx => brd_Turn ⟨p1, p2, p3, p4, p5, p6⟩ b turn W hx HSM.out HCAP.out)
  unfold BrdV.cells at HTU
  obtain ⟨tb, te, ht⟩ : ∃ tb te, turnR b turn = (tb, te) := ⟨_, _, rfl⟩
  rw [ht] at HTU
  have HT := Lib.hid ht
  clear ht
  go_wp2_with fail
  refine (HTU.out _ HIB.out).mono ?_
  rintro e w4 ⟨⟨t1, t2, t3, t4, t5, t6⟩, rfl, hB, -, hx⟩
  have HTB := Lib.hid hB
  clear hB HTU
  replace HX := Lib.hid (HX.out.trans hx)
  replace HBB := Lib.hid (HBB.out.ext hx)
  replace HBX := Lib.hid (HBX.out.ext hx)
  replace HBI := Lib.hid (HBI.out.ext hx)
  replace HIB := Lib.hid (HIB.out.ext hx)
  replace HWC := Lib.hid (HWC.out.ext hx)
  replace HKC := Lib.hid (HKC.out.ext hx)
  clear hx m0 m1 m2 m3 m4 m5 ml n0 n1 n2 n3 nl q0 q1 q2 q3 q4 q5 ql
  have m0 := HBB.out.cell 0 (v := .int .i64 b.eye) rfl
  have m1 := HBB.out.cell 1 (v := .int .i64 b.bull) rfl
  have m2 := HBB.out.cell 2 (v := .slice a1 b.rings.length a4) rfl
  have m3 := HBB.out.cell 3 (v := .slice a2 b.lines.length a5) rfl
  have m4 := HBB.out.cell 4 (v := .slice a3 b.nums.length a6) rfl
  have m5 := HBB.out.cell 5 (v := .int .i64 b.wire) rfl
  have ml := HBB.out.lt
  have n0 := HBX.out.cell 0 (v := .slice wa worn.length wc) rfl
  have n1 := HBX.out.cell 1 (v := .slice ka wks.length kc) rfl
  have n2 := HBX.out.cell 2 (v := .int .i64 turn) rfl
  have n3 := HBX.out.cell 3 (v := .int .i64 lim) rfl
  have nl := HBX.out.lt
  have q0 := HBI.out.cell 0 (v := .int .i64 b.eye) rfl
  have q1 := HBI.out.cell 1 (v := .int .i64 b.bull) rfl
  have q2 := HBI.out.cell 2 (v := .slice p1 b.rings.length p4) rfl
  have q3 := HBI.out.cell 3 (v := .slice p2 b.lines.length p5) rfl
  have q4 := HBI.out.cell 4 (v := .slice p3 b.nums.length p6) rfl
  have q5 := HBI.out.cell 5 (v := .int .i64 b.wire) rfl
  have ql := HBI.out.lt
  go_upto_region 5 with fail
  obtain ⟨k8, hk8⟩ : ∃ k, k = w4.heap.size := ⟨_, rfl⟩
  obtain ⟨w5, hw5⟩ : ∃ y, y = w4.alloc (.cells #[.int .i64 tb.eye, .int .i64 tb.bull, .slice t1 tb.rings.length t4, .slice t2 tb.lines.length t5, .slice t3 tb.nums.length t6, .int .i64 tb.wire] 26) := ⟨_, rfl⟩
  rw [← hw5, ← hk8]
  have hx : Ext w4 w5 := by rw [hw5]; exact (Ext.refl w4).alloc _
  have HBT : Hid (Blk w5 k8 #[.int .i64 tb.eye, .int .i64 tb.bull, .slice t1 tb.rings.length t4, .slice t2 tb.lines.length t5, .slice t3 tb.nums.length t6, .int .i64 tb.wire]) := Lib.hid (by rw [hw5, hk8]; exact Blk.new _ _ _)
  clear hw5 hk8
  replace HX := Lib.hid (HX.out.trans hx)
  replace HBB := Lib.hid (HBB.out.ext hx)
  replace HBX := Lib.hid (HBX.out.ext hx)
  replace HBI := Lib.hid (HBI.out.ext hx)
  replace HIB := Lib.hid (HIB.out.ext hx)
  replace HWC := Lib.hid (HWC.out.ext hx)
  replace HKC := Lib.hid (HKC.out.ext hx)
  replace HTB := Lib.hid (HTB.out.ext hx)
  clear hx m0 m1 m2 m3 m4 m5 ml n0 n1 n2 n3 nl q0 q1 q2 q3 q4 q5 ql
  have m0 := HBB.out.cell 0 (v := .int .i64 b.eye) rfl
  have m1 := HBB.out.cell 1 (v := .int .i64 b.bull) rfl
  have m2 := HBB.out.cell 2 (v := .slice a1 b.rings.length a4) rfl
  have m3 := HBB.out.cell 3 (v := .slice a2 b.lines.length a5) rfl
  have m4 := HBB.out.cell 4 (v := .slice a3 b.nums.length a6) rfl
  have m5 := HBB.out.cell 5 (v := .int .i64 b.wire) rfl
  have ml := HBB.out.lt
  have n0 := HBX.out.cell 0 (v := .slice wa worn.length wc) rfl
  have n1 := HBX.out.cell 1 (v := .slice ka wks.length kc) rfl
  have n2 := HBX.out.cell 2 (v := .int .i64 turn) rfl
  have n3 := HBX.out.cell 3 (v := .int .i64 lim) rfl
  have nl := HBX.out.lt
  have q0 := HBI.out.cell 0 (v := .int .i64 b.eye) rfl
  have q1 := HBI.out.cell 1 (v := .int .i64 b.bull) rfl
  have q2 := HBI.out.cell 2 (v := .slice p1 b.rings.length p4) rfl
  have q3 := HBI.out.cell 3 (v := .slice p2 b.lines.length p5) rfl
  have q4 := HBI.out.cell 4 (v := .slice p3 b.nums.length p6) rfl
  have q5 := HBI.out.cell 5 (v := .int .i64 b.wire) rfl
  have ql := HBI.out.lt
  have HWE := Lib.hid (fun W hx hw hk => brd_Wear ⟨p1, p2, p3, p4, p5, p6⟩ b worn wk va za vc zc turn W hx HSM.out hw hk)
  unfold BrdV.cells at HWE
  obtain ⟨aw, ae, ha⟩ : ∃ aw ae, wearR b worn wk turn = (aw, ae) := ⟨_, _, rfl⟩
  rw [ha] at HWE
  have HAW := Lib.hid ha
  clear ha
  go_wp2_with fail
  refine (HWE.out _ HIB.out HWC.out HKC.out).mono ?_
  rintro e w6 ⟨u, rfl, hr, hx⟩
  obtain ⟨ya, yc, rfl⟩ := hr.opens
  have HY := Lib.hid hr
  clear hr HWE
  replace HX := Lib.hid (HX.out.trans hx)
  replace HBB := Lib.hid (HBB.out.ext hx)
  replace HBX := Lib.hid (HBX.out.ext hx)
  replace HBI := Lib.hid (HBI.out.ext hx)
  replace HIB := Lib.hid (HIB.out.ext hx)
  replace HWC := Lib.hid (HWC.out.ext hx)
  replace HKC := Lib.hid (HKC.out.ext hx)
  replace HTB := Lib.hid (HTB.out.ext hx)
  replace HBT := Lib.hid (HBT.out.ext hx)
  clear hx m0 m1 m2 m3 m4 m5 ml n0 n1 n2 n3 nl q0 q1 q2 q3 q4 q5 ql
  have m0 := HBB.out.cell 0 (v := .int .i64 b.eye) rfl
  have m1 := HBB.out.cell 1 (v := .int .i64 b.bull) rfl
  have m2 := HBB.out.cell 2 (v := .slice a1 b.rings.length a4) rfl
  have m3 := HBB.out.cell 3 (v := .slice a2 b.lines.length a5) rfl
  have m4 := HBB.out.cell 4 (v := .slice a3 b.nums.length a6) rfl
  have m5 := HBB.out.cell 5 (v := .int .i64 b.wire) rfl
  have ml := HBB.out.lt
  have n0 := HBX.out.cell 0 (v := .slice wa worn.length wc) rfl
  have n1 := HBX.out.cell 1 (v := .slice ka wks.length kc) rfl
  have n2 := HBX.out.cell 2 (v := .int .i64 turn) rfl
  have n3 := HBX.out.cell 3 (v := .int .i64 lim) rfl
  have nl := HBX.out.lt
  have q0 := HBI.out.cell 0 (v := .int .i64 b.eye) rfl
  have q1 := HBI.out.cell 1 (v := .int .i64 b.bull) rfl
  have q2 := HBI.out.cell 2 (v := .slice p1 b.rings.length p4) rfl
  have q3 := HBI.out.cell 3 (v := .slice p2 b.lines.length p5) rfl
  have q4 := HBI.out.cell 4 (v := .slice p3 b.nums.length p6) rfl
  have q5 := HBI.out.cell 5 (v := .int .i64 b.wire) rfl
  have ql := HBI.out.lt
  have HBE := Lib.hid (fun W hx hw hk => brd_Best ⟨p1, p2, p3, p4, p5, p6⟩ b worn wk va za vc zc W hx HSM.out hw hk)
  unfold BrdV.cells at HBE
  obtain ⟨bk, bm, be, ha⟩ : ∃ bk bm be, bestR b worn wk = (bk, bm, be) := ⟨_, _, _, rfl⟩
  rw [ha] at HBE
  have HBR := Lib.hid ha
  clear ha
  go_wp2_with fail
  refine (HBE.out _ HIB.out HWC.out HKC.out).mono ?_
  rintro e w7 ⟨rfl, hx⟩
  clear HBE
  replace HX := Lib.hid (HX.out.trans hx)
  replace HBB := Lib.hid (HBB.out.ext hx)
  replace HBX := Lib.hid (HBX.out.ext hx)
  replace HBI := Lib.hid (HBI.out.ext hx)
  replace HIB := Lib.hid (HIB.out.ext hx)
  replace HWC := Lib.hid (HWC.out.ext hx)
  replace HKC := Lib.hid (HKC.out.ext hx)
  replace HTB := Lib.hid (HTB.out.ext hx)
  replace HBT := Lib.hid (HBT.out.ext hx)
  replace HY := Lib.hid (HY.out.ext hx)
  clear hx m0 m1 m2 m3 m4 m5 ml n0 n1 n2 n3 nl q0 q1 q2 q3 q4 q5 ql
  have m0 := HBB.out.cell 0 (v := .int .i64 b.eye) rfl
  have m1 := HBB.out.cell 1 (v := .int .i64 b.bull) rfl
  have m2 := HBB.out.cell 2 (v := .slice a1 b.rings.length a4) rfl
  have m3 := HBB.out.cell 3 (v := .slice a2 b.lines.length a5) rfl
  have m4 := HBB.out.cell 4 (v := .slice a3 b.nums.length a6) rfl
  have m5 := HBB.out.cell 5 (v := .int .i64 b.wire) rfl
  have ml := HBB.out.lt
  have n0 := HBX.out.cell 0 (v := .slice wa worn.length wc) rfl
  have n1 := HBX.out.cell 1 (v := .slice ka wks.length kc) rfl
  have n2 := HBX.out.cell 2 (v := .int .i64 turn) rfl
  have n3 := HBX.out.cell 3 (v := .int .i64 lim) rfl
  have nl := HBX.out.lt
  have q0 := HBI.out.cell 0 (v := .int .i64 b.eye) rfl
  have q1 := HBI.out.cell 1 (v := .int .i64 b.bull) rfl
  have q2 := HBI.out.cell 2 (v := .slice p1 b.rings.length p4) rfl
  have q3 := HBI.out.cell 3 (v := .slice p2 b.lines.length p5) rfl
  have q4 := HBI.out.cell 4 (v := .slice p3 b.nums.length p6) rfl
  have q5 := HBI.out.cell 5 (v := .int .i64 b.wire) rfl
  have ql := HBI.out.lt
  have HSA := Lib.hid (fun W ha hb => law_same ⟨p1, p2, p3, p4, p5, p6⟩ ⟨a1, a2, a3, a4, a5, a6⟩ b b W ha hb HSM.out)
  rw [same_self] at HSA
  unfold BrdV.cells at HSA
  go_wp2_with fail
  refine (HSA.out _ HIB.out (HB.out.ext HX.out)).mono ?_
  rintro e w8 ⟨rfl, hx⟩
  clear HSA
  replace HX := Lib.hid (HX.out.trans hx)
  replace HBB := Lib.hid (HBB.out.ext hx)
  replace HBX := Lib.hid (HBX.out.ext hx)
  replace HWC := Lib.hid (HWC.out.ext hx)
  replace HKC := Lib.hid (HKC.out.ext hx)
  replace HTB := Lib.hid (HTB.out.ext hx)
  replace HBT := Lib.hid (HBT.out.ext hx)
  replace HY := Lib.hid (HY.out.ext hx)
  clear hx m0 m1 m2 m3 m4 m5 ml n0 n1 n2 n3 nl
  have m0 := HBB.out.cell 0 (v := .int .i64 b.eye) rfl
  have m1 := HBB.out.cell 1 (v := .int .i64 b.bull) rfl
  have m2 := HBB.out.cell 2 (v := .slice a1 b.rings.length a4) rfl
  have m3 := HBB.out.cell 3 (v := .slice a2 b.lines.length a5) rfl
  have m4 := HBB.out.cell 4 (v := .slice a3 b.nums.length a6) rfl
  have m5 := HBB.out.cell 5 (v := .int .i64 b.wire) rfl
  have ml := HBB.out.lt
  have n0 := HBX.out.cell 0 (v := .slice wa worn.length wc) rfl
  have n1 := HBX.out.cell 1 (v := .slice ka wks.length kc) rfl
  have n2 := HBX.out.cell 2 (v := .int .i64 turn) rfl
  have n3 := HBX.out.cell 3 (v := .int .i64 lim) rfl
  have nl := HBX.out.lt
  clear HBI HIB HCAP q0 q1 q2 q3 q4 q5 ql
  have HAL := Lib.hid (fun W ha hb => law_alike worn worn va wa vc wc W ha hb (by have := HL1.out; omega))
  rw [decide_eq_true rfl] at HAL
  go_wp2_with fail
  refine (HAL.out _ (rd_cells HWC.out) (HW.out.ext HX.out)).mono ?_
  rintro e w9 ⟨rfl, hx⟩
  clear HAL
  replace HX := Lib.hid (HX.out.trans hx)
  replace HBB := Lib.hid (HBB.out.ext hx)
  replace HBX := Lib.hid (HBX.out.ext hx)
  replace HKC := Lib.hid (HKC.out.ext hx)
  replace HTB := Lib.hid (HTB.out.ext hx)
  replace HBT := Lib.hid (HBT.out.ext hx)
  replace HY := Lib.hid (HY.out.ext hx)
  clear hx m0 m1 m2 m3 m4 m5 ml n0 n1 n2 n3 nl
  have m0 := HBB.out.cell 0 (v := .int .i64 b.eye) rfl
  have m1 := HBB.out.cell 1 (v := .int .i64 b.bull) rfl
  have m2 := HBB.out.cell 2 (v := .slice a1 b.rings.length a4) rfl
  have m3 := HBB.out.cell 3 (v := .slice a2 b.lines.length a5) rfl
  have m4 := HBB.out.cell 4 (v := .slice a3 b.nums.length a6) rfl
  have m5 := HBB.out.cell 5 (v := .int .i64 b.wire) rfl
  have ml := HBB.out.lt
  have n0 := HBX.out.cell 0 (v := .slice wa worn.length wc) rfl
  have n1 := HBX.out.cell 1 (v := .slice ka wks.length kc) rfl
  have n2 := HBX.out.cell 2 (v := .int .i64 turn) rfl
  have n3 := HBX.out.cell 3 (v := .int .i64 lim) rfl
  have nl := HBX.out.lt
  clear HWC
  go_wp2_with fail
  refine (HWK.out _ HX.out).mono ?_
  rintro e w10 ⟨rfl, hx⟩
  replace HX := Lib.hid (HX.out.trans hx)
  replace HBB := Lib.hid (HBB.out.ext hx)
  replace HBX := Lib.hid (HBX.out.ext hx)
  replace HKC := Lib.hid (HKC.out.ext hx)
  replace HTB := Lib.hid (HTB.out.ext hx)
  replace HBT := Lib.hid (HBT.out.ext hx)
  replace HY := Lib.hid (HY.out.ext hx)
  clear hx m0 m1 m2 m3 m4 m5 ml n0 n1 n2 n3 nl
  have m0 := HBB.out.cell 0 (v := .int .i64 b.eye) rfl
  have m1 := HBB.out.cell 1 (v := .int .i64 b.bull) rfl
  have m2 := HBB.out.cell 2 (v := .slice a1 b.rings.length a4) rfl
  have m3 := HBB.out.cell 3 (v := .slice a2 b.lines.length a5) rfl
  have m4 := HBB.out.cell 4 (v := .slice a3 b.nums.length a6) rfl
  have m5 := HBB.out.cell 5 (v := .int .i64 b.wire) rfl
  have ml := HBB.out.lt
  have n0 := HBX.out.cell 0 (v := .slice wa worn.length wc) rfl
  have n1 := HBX.out.cell 1 (v := .slice ka wks.length kc) rfl
  have n2 := HBX.out.cell 2 (v := .int .i64 turn) rfl
  have n3 := HBX.out.cell 3 (v := .int .i64 lim) rfl
  have nl := HBX.out.lt
  have HAL := Lib.hid (fun W ha hb => law_alike wk wk za ua zc uc W ha hb (by have := HL2.out; omega))
  rw [decide_eq_true rfl] at HAL
  go_wp2_with fail
  refine (HAL.out _ (rd_cells HKC.out) (HU.out.ext HX.out)).mono ?_
  rintro e w11 ⟨rfl, hx⟩
  clear HAL
  replace HX := Lib.hid (HX.out.trans hx)
  replace HBB := Lib.hid (HBB.out.ext hx)
  replace HBX := Lib.hid (HBX.out.ext hx)
  replace HTB := Lib.hid (HTB.out.ext hx)
  replace HBT := Lib.hid (HBT.out.ext hx)
  replace HY := Lib.hid (HY.out.ext hx)
  clear hx m0 m1 m2 m3 m4 m5 ml n0 n1 n2 n3 nl
  have m0 := HBB.out.cell 0 (v := .int .i64 b.eye) rfl
  have m1 := HBB.out.cell 1 (v := .int .i64 b.bull) rfl
  have m2 := HBB.out.cell 2 (v := .slice a1 b.rings.length a4) rfl
  have m3 := HBB.out.cell 3 (v := .slice a2 b.lines.length a5) rfl
  have m4 := HBB.out.cell 4 (v := .slice a3 b.nums.length a6) rfl
  have m5 := HBB.out.cell 5 (v := .int .i64 b.wire) rfl
  have ml := HBB.out.lt
  have n0 := HBX.out.cell 0 (v := .slice wa worn.length wc) rfl
  have n1 := HBX.out.cell 1 (v := .slice ka wks.length kc) rfl
  have n2 := HBX.out.cell 2 (v := .int .i64 turn) rfl
  have n3 := HBX.out.cell 3 (v := .int .i64 lim) rfl
  have nl := HBX.out.lt
  clear HKC
  go_upto_region 9 with fail
  have HCK := Lib.hid (fun W (hx : Ext w11 W) => ref_check a1 a2 a3 a4 a5 a6 b W (HB.out.ext (HX.out.trans hx)) HSM.out HGT.out)
  refine wp_region_later (by kernel_rfl) (by kernel_rfl) ?_
  repeat (go_big_quiet_step (refine Calls.later (HCK.out _ (Later.ext _))))
  refine wpQuiet_nil ?_
  intro w12 hw12
  obtain ⟨⟨w12, hx⟩, rfl⟩ := hw12
  clear HCK
  replace HX := Lib.hid (HX.out.trans hx)
  replace HBB := Lib.hid (HBB.out.ext hx)
  replace HBX := Lib.hid (HBX.out.ext hx)
  replace HTB := Lib.hid (HTB.out.ext hx)
  replace HBT := Lib.hid (HBT.out.ext hx)
  replace HY := Lib.hid (HY.out.ext hx)
  clear hx m0 m1 m2 m3 m4 m5 ml n0 n1 n2 n3 nl
  have m0 := HBB.out.cell 0 (v := .int .i64 b.eye) rfl
  have m1 := HBB.out.cell 1 (v := .int .i64 b.bull) rfl
  have m2 := HBB.out.cell 2 (v := .slice a1 b.rings.length a4) rfl
  have m3 := HBB.out.cell 3 (v := .slice a2 b.lines.length a5) rfl
  have m4 := HBB.out.cell 4 (v := .slice a3 b.nums.length a6) rfl
  have m5 := HBB.out.cell 5 (v := .int .i64 b.wire) rfl
  have ml := HBB.out.lt
  have n0 := HBX.out.cell 0 (v := .slice wa worn.length wc) rfl
  have n1 := HBX.out.cell 1 (v := .slice ka wks.length kc) rfl
  have n2 := HBX.out.cell 2 (v := .int .i64 turn) rfl
  have n3 := HBX.out.cell 3 (v := .int .i64 lim) rfl
  have nl := HBX.out.lt
  obtain ⟨ec, hec⟩ : ∃ x, errB b = x := ⟨_, rfl⟩
  have HEC := Lib.hid hec
  rw [hec]
  clear hec
  have hee : (ec == ec) = true := by simp
  cases d0 : (ec != 0)
  case true =>
    have h0 : errB b ≠ 0 := by rw [HEC.out]; simpa using d0
    obtain ⟨e1, e2, e3⟩ := turns_err (worn := worn) (wk := wk) (k := turn) h0
    rw [HT.out, HEC.out] at e1
    rw [HAW.out, HEC.out] at e2
    rw [HBR.out, HEC.out] at e3
    obtain ⟨rfl, rfl⟩ : zeroB = tb ∧ ec = te := by simpa [eq_comm] using e1
    obtain ⟨rfl, rfl⟩ : [] = aw ∧ ec = ae := by simpa [eq_comm] using e2
    obtain ⟨rfl, rfl, rfl⟩ : 0 = bk ∧ 0 = bm ∧ ec = be := by simpa [eq_comm] using e3
    clear e1 e2 e3 h0
    have HSZ : Hid (∀ W, Ext w12 W → Calls Tryz.prog 23 #[.agg #[.int .i64 0, .int .i64 0, .slice t1 0 t4, .slice t2 0 t5, .slice t3 0 t6, .int .i64 0], .agg #[.int .i64 0, .int .i64 0, .slice none 0 0, .slice none 0 0, .slice none 0 0, .int .i64 0]] W fun e w' => e = .returned (.bool true) ∧ Ext W w') := Lib.hid (fun W hx => by
      have := law_same ⟨t1, t2, t3, t4, t5, t6⟩ ⟨none, none, none, 0, 0, 0⟩ zeroB zeroB W (HTB.out.ext hx) (BrdAt.zero W) zero_small
      rw [same_self] at this
      exact this)
    replace HBT : Hid (Blk w12 k8 #[.int .i64 0, .int .i64 0, .slice t1 0 t4, .slice t2 0 t5, .slice t3 0 t6, .int .i64 0]) := Lib.hid HBT.out
    have r0 := HBT.out.cell 0 (v := .int .i64 0) rfl
    have r1 := HBT.out.cell 1 (v := .int .i64 0) rfl
    have r2 := HBT.out.cell 2 (v := .slice t1 0 t4) rfl
    have r3 := HBT.out.cell 3 (v := .slice t2 0 t5) rfl
    have r4 := HBT.out.cell 4 (v := .slice t3 0 t6) rfl
    have r5 := HBT.out.cell 5 (v := .int .i64 0) rfl
    have rl := HBT.out.lt
    go_wp2_with fail
    refine (HSZ.out _ (Ext.refl _)).mono ?_
    rintro e w13 ⟨rfl, hx⟩
    clear HSZ r0 r1 r2 r3 r4 r5 rl
    replace HX := Lib.hid (HX.out.trans hx)
    replace HBB := Lib.hid (HBB.out.ext hx)
    replace HBX := Lib.hid (HBX.out.ext hx)
    clear hx m0 m1 m2 m3 m4 m5 ml n0 n1 n2 n3 nl
    have m0 := HBB.out.cell 0 (v := .int .i64 b.eye) rfl
    have m1 := HBB.out.cell 1 (v := .int .i64 b.bull) rfl
    have m2 := HBB.out.cell 2 (v := .slice a1 b.rings.length a4) rfl
    have m3 := HBB.out.cell 3 (v := .slice a2 b.lines.length a5) rfl
    have m4 := HBB.out.cell 4 (v := .slice a3 b.nums.length a6) rfl
    have m5 := HBB.out.cell 5 (v := .int .i64 b.wire) rfl
    have ml := HBB.out.lt
    have n0 := HBX.out.cell 0 (v := .slice wa worn.length wc) rfl
    have n1 := HBX.out.cell 1 (v := .slice ka wks.length kc) rfl
    have n2 := HBX.out.cell 2 (v := .int .i64 turn) rfl
    have n3 := HBX.out.cell 3 (v := .int .i64 lim) rfl
    have nl := HBX.out.lt
    go_wp2_with fail
    refine (HKN.out _).mono ?_
    rintro e w14 ⟨rfl, hx⟩
    go_wp2_with fail
    go_ret
    exact ⟨rfl, HX.out.trans hx⟩
  case false =>
  obtain rfl : 0 = ec := (show ec = 0 by simpa using d0).symm
  have HE0 := HEC
  have HNL := Lib.hid (errB_len HSM.out HEC.out)
  clear d0 hee HEC HGT
  cases hkb : ins 0 ((b.nums.length : Int) - 1) [turn]
  case false =>
    have HKB := Lib.hid hkb
    have e1 := turn_out HE0.out hkb
    rw [HT.out] at e1
    obtain ⟨rfl, rfl⟩ : zeroB = tb ∧ 3 = te := by simpa [eq_comm] using e1
    clear e1
    have HSZ : Hid (∀ W, Ext w12 W → Calls Tryz.prog 23 #[.agg #[.int .i64 0, .int .i64 0, .slice t1 0 t4, .slice t2 0 t5, .slice t3 0 t6, .int .i64 0], .agg #[.int .i64 0, .int .i64 0, .slice none 0 0, .slice none 0 0, .slice none 0 0, .int .i64 0]] W fun e w' => e = .returned (.bool true) ∧ Ext W w') := Lib.hid (fun W hx => by
      have := law_same ⟨t1, t2, t3, t4, t5, t6⟩ ⟨none, none, none, 0, 0, 0⟩ zeroB zeroB W (HTB.out.ext hx) (BrdAt.zero W) zero_small
      rw [same_self] at this
      exact this)
    replace HBT : Hid (Blk w12 k8 #[.int .i64 0, .int .i64 0, .slice t1 0 t4, .slice t2 0 t5, .slice t3 0 t6, .int .i64 0]) := Lib.hid HBT.out
    have r0 := HBT.out.cell 0 (v := .int .i64 0) rfl
    have r1 := HBT.out.cell 1 (v := .int .i64 0) rfl
    have r2 := HBT.out.cell 2 (v := .slice t1 0 t4) rfl
    have r3 := HBT.out.cell 3 (v := .slice t2 0 t5) rfl
    have r4 := HBT.out.cell 4 (v := .slice t3 0 t6) rfl
    have r5 := HBT.out.cell 5 (v := .int .i64 0) rfl
    have rl := HBT.out.lt
    by_cases hneg : turn < 0
    case pos =>
      clear hkb
      go_wp2_with fail
      refine (HSZ.out _ (Ext.refl _)).mono ?_
      rintro e w13 ⟨rfl, hx⟩
      clear HSZ HBT HTB r0 r1 r2 r3 r4 r5 rl
      replace HX := Lib.hid (HX.out.trans hx)
      replace HBB := Lib.hid (HBB.out.ext hx)
      replace HBX := Lib.hid (HBX.out.ext hx)
      replace HY := Lib.hid (HY.out.ext hx)
      clear hx m0 m1 m2 m3 m4 m5 ml n0 n1 n2 n3 nl
      have m0 := HBB.out.cell 0 (v := .int .i64 b.eye) rfl
      have m1 := HBB.out.cell 1 (v := .int .i64 b.bull) rfl
      have m2 := HBB.out.cell 2 (v := .slice a1 b.rings.length a4) rfl
      have m3 := HBB.out.cell 3 (v := .slice a2 b.lines.length a5) rfl
      have m4 := HBB.out.cell 4 (v := .slice a3 b.nums.length a6) rfl
      have m5 := HBB.out.cell 5 (v := .int .i64 b.wire) rfl
      have ml := HBB.out.lt
      have n0 := HBX.out.cell 0 (v := .slice wa worn.length wc) rfl
      have n1 := HBX.out.cell 1 (v := .slice ka wks.length kc) rfl
      have n2 := HBX.out.cell 2 (v := .int .i64 turn) rfl
      have n3 := HBX.out.cell 3 (v := .int .i64 lim) rfl
      have nl := HBX.out.lt
      obtain ⟨fm, hfm⟩ : ∃ x, formB b.nums.length worn [wk] = x := ⟨_, rfl⟩
      have HFM := Lib.hid hfm
      have HFO : Hid (∀ W k, Ext w W → WkC W (some ⟨k, 0, none⟩) [wk] → Calls Tryz.prog 16 #[.int .i64 b.nums.length, .slice wa worn.length wc, .slice (some ⟨k, 0, none⟩) 1 1] W fun e w' => e = .returned (.int .i64 fm) ∧ Ext W w') :=
        Lib.hid (fun W k hX h => by rw [← hfm]; exact ref_form b.nums.length worn [wk] wa (some ⟨k, 0, none⟩) wc 1 W (HW.out.ext hX) h (by have := HNL.out; omega) (by simp))
      clear hfm
      go_upto_region 22 with fail
      clear m0 m1 m2 m3 m4 m5 ml n0 n1 n2 n3 nl
      have m0 : ∀ y : Lat NoX w13, y.world.cell? ⟨w.heap.size, 0, none⟩ = some (.int .i64 b.eye) := fun y => (HBB.out.ext (Lat.ext0 y)).cell 0 rfl
      have m1 : ∀ y : Lat NoX w13, y.world.cell? ⟨w.heap.size, 1, none⟩ = some (.int .i64 b.bull) := fun y => (HBB.out.ext (Lat.ext0 y)).cell 1 rfl
      have m2 : ∀ y : Lat NoX w13, y.world.cell? ⟨w.heap.size, 2, none⟩ = some (.slice a1 b.rings.length a4) := fun y => (HBB.out.ext (Lat.ext0 y)).cell 2 rfl
      have m3 : ∀ y : Lat NoX w13, y.world.cell? ⟨w.heap.size, 3, none⟩ = some (.slice a2 b.lines.length a5) := fun y => (HBB.out.ext (Lat.ext0 y)).cell 3 rfl
      have m4 : ∀ y : Lat NoX w13, y.world.cell? ⟨w.heap.size, 4, none⟩ = some (.slice a3 b.nums.length a6) := fun y => (HBB.out.ext (Lat.ext0 y)).cell 4 rfl
      have m5 : ∀ y : Lat NoX w13, y.world.cell? ⟨w.heap.size, 5, none⟩ = some (.int .i64 b.wire) := fun y => (HBB.out.ext (Lat.ext0 y)).cell 5 rfl
      have ml := HBB.out.lt
      have n0 : ∀ y : Lat NoX w13, y.world.cell? ⟨(w.heap.size + 1), 0, none⟩ = some (.slice wa worn.length wc) := fun y => (HBX.out.ext (Lat.ext0 y)).cell 0 rfl
      have n1 : ∀ y : Lat NoX w13, y.world.cell? ⟨(w.heap.size + 1), 1, none⟩ = some (.slice ka wks.length kc) := fun y => (HBX.out.ext (Lat.ext0 y)).cell 1 rfl
      have n2 : ∀ y : Lat NoX w13, y.world.cell? ⟨(w.heap.size + 1), 2, none⟩ = some (.int .i64 turn) := fun y => (HBX.out.ext (Lat.ext0 y)).cell 2 rfl
      have n3 : ∀ y : Lat NoX w13, y.world.cell? ⟨(w.heap.size + 1), 3, none⟩ = some (.int .i64 lim) := fun y => (HBX.out.ext (Lat.ext0 y)).cell 3 rfl
      have nl := HBX.out.lt
      refine wp_region_ext (by kernel_rfl) [.no, .no, .no, .no, .val (.slice ua wk.length uc), .wk1 wk, .val (.int .i64 fm)] (by kernel_rfl) (Nat.le_of_ble_eq_true rfl) ?_
      intro T hT hne u hu
      have u4 : u 4 = .slice ua wk.length uc := hu 4 rfl
      obtain ⟨k22, u5⟩ : WkS (u 5) := hu 5 rfl
      have u6 : u 6 = .int .i64 fm := hu 6 rfl
      clear hu
      refine lx_next 4 (by rfl) (by decide) ?_
      dsimp only [List.take, List.drop]
      repeat (go_big_quiet_step (fail))
      refine wpQuiet_nil ?_
      refine lx_loud (by rfl) (by kernel_rfl) ?_ (fun K hK => ?_)
      · intro L w3 hL hd hcl hC hs
        obtain ⟨y, rfl⟩ := hC
        have hxy := Lat.ext0 y

        go_wp2_with fail
        refine (HWK.out _ (HX.out.trans hxy)).mono ?_
        rintro e w' ⟨rfl, hx⟩
        have HRK := Lib.hid (rik_call (i := 4) y hs rfl hx trivial)
        clear hs
        go_wp2
        exact HRK.out
      rw [u4]
      go_simp
      with_reducible refine hK _ ?_
      clear hK K
      refine lx_loud (by rfl) (by kernel_rfl) ?_ (fun K hK => ?_)
      · intro L w3 hL hd hcl hC hs
        obtain ⟨y, rfl⟩ := hC
        have hxy := Lat.ext0 y

        have HRK := Lib.hid (rik_call (i := 5) y hs (w' := y.world.alloc (.cells #[.slice ua wk.length uc] 24)) (v := .slice (some ⟨y.world.heap.size, 0, none⟩) 1 1) ⟨_, rfl⟩ ((Ext.refl _).alloc _) ⟨_, rfl, WkC.one (HU.out.ext (HX.out.trans hxy)) HUN.out _ rfl⟩)
        clear hs
        go_wp2
        exact HRK.out
      rw [u5]
      go_simp
      with_reducible refine hK _ ?_
      clear hK K
      refine lx_loud (by rfl) (by kernel_rfl) ?_ (fun K hK => ?_)
      · intro L w3 hL hd hcl hC hs
        obtain ⟨y, rfl⟩ := hC
        have hxy := Lat.ext0 y
        have h5 := hs 5 rfl (hd 5 (by kernel_rfl))
        rw [u5] at h5
        go_wp2_with fail
        refine (HFO.out _ _ (HX.out.trans hxy) (wk1_at h5)).mono ?_
        rintro e w' ⟨rfl, hx⟩
        have HRK := Lib.hid (rik_call (i := 6) y hs rfl hx trivial)
        clear hs
        go_wp2
        exact HRK.out
      rw [u6]
      go_simp
      with_reducible refine hK _ ?_
      clear hK K
      refine lx_next 1 (by rfl) (by decide) ?_
      dsimp only [List.take, List.drop]
      repeat (go_big_quiet_step (fail))
      refine wpQuiet_nil ?_
      refine lx_nil ?_
      intro y hs
      have hxy := Lat.ext0 y
      clear hs hT hne u4 u5 u6 HFO
      generalize y.world = w20 at *
      replace HX := Lib.hid (HX.out.trans hxy)
      replace HBB := Lib.hid (HBB.out.ext hxy)
      replace HBX := Lib.hid (HBX.out.ext hxy)
      replace HY := Lib.hid (HY.out.ext hxy)
      clear hxy m0 m1 m2 m3 m4 m5 ml n0 n1 n2 n3 nl
      have m0 := HBB.out.cell 0 (v := .int .i64 b.eye) rfl
      have m1 := HBB.out.cell 1 (v := .int .i64 b.bull) rfl
      have m2 := HBB.out.cell 2 (v := .slice a1 b.rings.length a4) rfl
      have m3 := HBB.out.cell 3 (v := .slice a2 b.lines.length a5) rfl
      have m4 := HBB.out.cell 4 (v := .slice a3 b.nums.length a6) rfl
      have m5 := HBB.out.cell 5 (v := .int .i64 b.wire) rfl
      have ml := HBB.out.lt
      have n0 := HBX.out.cell 0 (v := .slice wa worn.length wc) rfl
      have n1 := HBX.out.cell 1 (v := .slice ka wks.length kc) rfl
      have n2 := HBX.out.cell 2 (v := .int .i64 turn) rfl
      have n3 := HBX.out.cell 3 (v := .int .i64 lim) rfl
      have nl := HBX.out.lt
      have hff : (fm == fm) = true := by simp
      cases d1 : (fm != 0)
      case true =>
        have hf : formB b.nums.length worn [wk] ≠ 0 := by rw [HFM.out]; simpa using d1
        obtain ⟨e2, e3⟩ := wear_form (k := turn) HE0.out hf
        rw [HAW.out, HFM.out] at e2
        rw [HBR.out, HFM.out] at e3
        obtain ⟨rfl, rfl⟩ : [] = aw ∧ fm = ae := by simpa [eq_comm] using e2
        obtain ⟨rfl, rfl, rfl⟩ : 0 = bk ∧ 0 = bm ∧ fm = be := by simpa [eq_comm] using e3
        clear e2 e3 hf
        go_wp2_with fail
        refine (HKN.out _).mono ?_
        rintro e w21 ⟨rfl, hx⟩
        go_wp2_with fail
        go_ret
        exact ⟨rfl, HX.out.trans hx⟩
      case false =>
      obtain rfl : 0 = fm := (show fm = 0 by simpa using d1).symm
      clear d1 hff
      have HF0 := HFM
      have HGF := Lib.hid (form_good HFM.out)
      have e2 := wear_out (worn := worn) (wk := wk) HE0.out HFM.out HKB.out
      rw [HAW.out] at e2
      obtain ⟨rfl, rfl⟩ : [] = aw ∧ 3 = ae := by simpa [eq_comm] using e2
      clear e2
      go_upto_region 31 with fail
      obtain ⟨p, hp⟩ : ∃ p, bestL (plansL [wk] [] worn) = some p := by
        cases h : bestL (plansL [wk] [] worn) with
        | none => exact absurd (bestL_none h) (plansL_ne [wk] [] worn (by have := HNL.out; have := HGF.out.1; omega) (by rw [HGF.out.1]; exact HGF.out.2.1))
        | some p => exact ⟨p, rfl⟩
      obtain ⟨j, -, rfl⟩ := plans_one (bestL_mem hp)
      have hbo := best_of HE0.out HF0.out hp
      rw [HBR.out] at hbo
      obtain ⟨M, hM⟩ : ∃ x, maxL (afterL worn wk j) = x := ⟨_, rfl⟩
      have HPL : Hid (∀ W k, Ext w W → WkC W (some ⟨k, 0, none⟩) [wk] → Calls Tryz.prog 17 #[.slice wa worn.length wc, .slice (some ⟨k, 0, none⟩) 1 1] W fun e w' => ∃ a c, e = .returned (.tuple #[.slice a 1 c, .int .i64 M]) ∧ CellsAt w' .i64 a [(j : Int)] ∧ Ext W w') :=
        Lib.hid (fun W k hX h => by rw [← hM]; exact calls_rplan worn [wk] wa (some ⟨k, 0, none⟩) wc 1 W hp (HW.out.ext hX) h (by have := HNL.out; have := HGF.out.1; omega) HL1.out (by simp) (by rw [HGF.out.1]; exact HGF.out.2.1) (fun y hy => by have := HGF.out.2.2.1 y hy; omega))
      simp only [hM, List.headD_cons] at hbo
      have HBO := Lib.hid hbo
      clear hp hbo hM
      clear m0 m1 m2 m3 m4 m5 ml n0 n1 n2 n3 nl
      have m0 : ∀ y : Lat NoX w20, y.world.cell? ⟨w.heap.size, 0, none⟩ = some (.int .i64 b.eye) := fun y => (HBB.out.ext (Lat.ext0 y)).cell 0 rfl
      have m1 : ∀ y : Lat NoX w20, y.world.cell? ⟨w.heap.size, 1, none⟩ = some (.int .i64 b.bull) := fun y => (HBB.out.ext (Lat.ext0 y)).cell 1 rfl
      have m2 : ∀ y : Lat NoX w20, y.world.cell? ⟨w.heap.size, 2, none⟩ = some (.slice a1 b.rings.length a4) := fun y => (HBB.out.ext (Lat.ext0 y)).cell 2 rfl
      have m3 : ∀ y : Lat NoX w20, y.world.cell? ⟨w.heap.size, 3, none⟩ = some (.slice a2 b.lines.length a5) := fun y => (HBB.out.ext (Lat.ext0 y)).cell 3 rfl
      have m4 : ∀ y : Lat NoX w20, y.world.cell? ⟨w.heap.size, 4, none⟩ = some (.slice a3 b.nums.length a6) := fun y => (HBB.out.ext (Lat.ext0 y)).cell 4 rfl
      have m5 : ∀ y : Lat NoX w20, y.world.cell? ⟨w.heap.size, 5, none⟩ = some (.int .i64 b.wire) := fun y => (HBB.out.ext (Lat.ext0 y)).cell 5 rfl
      have ml := HBB.out.lt
      have n0 : ∀ y : Lat NoX w20, y.world.cell? ⟨(w.heap.size + 1), 0, none⟩ = some (.slice wa worn.length wc) := fun y => (HBX.out.ext (Lat.ext0 y)).cell 0 rfl
      have n1 : ∀ y : Lat NoX w20, y.world.cell? ⟨(w.heap.size + 1), 1, none⟩ = some (.slice ka wks.length kc) := fun y => (HBX.out.ext (Lat.ext0 y)).cell 1 rfl
      have n2 : ∀ y : Lat NoX w20, y.world.cell? ⟨(w.heap.size + 1), 2, none⟩ = some (.int .i64 turn) := fun y => (HBX.out.ext (Lat.ext0 y)).cell 2 rfl
      have n3 : ∀ y : Lat NoX w20, y.world.cell? ⟨(w.heap.size + 1), 3, none⟩ = some (.int .i64 lim) := fun y => (HBX.out.ext (Lat.ext0 y)).cell 3 rfl
      have nl := HBX.out.lt
      refine wp_region_ext (by kernel_rfl) [.no, .no, .no, .val (.slice ua wk.length uc), .wk1 wk, .pl2 [(j : Int)] M] (by kernel_rfl) (Nat.le_of_ble_eq_true rfl) ?_
      intro T hT hne u hu
      have u3 : u 3 = .slice ua wk.length uc := hu 3 rfl
      obtain ⟨k31, u4⟩ : WkS (u 4) := hu 4 rfl
      obtain ⟨pa, pc, u5⟩ : PlnS 1 M (u 5) := hu 5 rfl
      clear hu
      refine lx_next 3 (by rfl) (by decide) ?_
      dsimp only [List.take, List.drop]
      repeat (go_big_quiet_step (fail))
      refine wpQuiet_nil ?_
      refine lx_loud (by rfl) (by kernel_rfl) ?_ (fun K hK => ?_)
      · intro L w3 hL hd hcl hC hs
        obtain ⟨y, rfl⟩ := hC
        have hxy := Lat.ext0 y

        go_wp2_with fail
        refine (HWK.out _ (HX.out.trans hxy)).mono ?_
        rintro e w' ⟨rfl, hx⟩
        have HRK := Lib.hid (rik_call (i := 3) y hs rfl hx trivial)
        clear hs
        go_wp2
        exact HRK.out
      rw [u3]
      go_simp
      with_reducible refine hK _ ?_
      clear hK K
      refine lx_loud (by rfl) (by kernel_rfl) ?_ (fun K hK => ?_)
      · intro L w3 hL hd hcl hC hs
        obtain ⟨y, rfl⟩ := hC
        have hxy := Lat.ext0 y

        have HRK := Lib.hid (rik_call (i := 4) y hs (w' := y.world.alloc (.cells #[.slice ua wk.length uc] 24)) (v := .slice (some ⟨y.world.heap.size, 0, none⟩) 1 1) ⟨_, rfl⟩ ((Ext.refl _).alloc _) ⟨_, rfl, WkC.one (HU.out.ext (HX.out.trans hxy)) HUN.out _ rfl⟩)
        clear hs
        go_wp2
        exact HRK.out
      rw [u4]
      go_simp
      with_reducible refine hK _ ?_
      clear hK K
      refine lx_loud (by rfl) (by kernel_rfl) ?_ (fun K hK => ?_)
      · intro L w3 hL hd hcl hC hs
        obtain ⟨y, rfl⟩ := hC
        have hxy := Lat.ext0 y
        have h4 := hs 4 rfl (hd 4 (by kernel_rfl))
        rw [u4] at h4
        go_wp2_with fail
        refine (HPL.out _ _ (HX.out.trans hxy) (wk1_at h4)).mono ?_
        rintro e w' ⟨xa, xc, rfl, hri, hx⟩
        have HRK := Lib.hid (rik_call (i := 5) y hs ⟨xa, xc, rfl⟩ hx ⟨xa, xc, rfl, hri⟩)
        clear hs
        go_wp2
        exact HRK.out
      rw [u5]
      go_simp
      with_reducible refine hK _ ?_
      clear hK K
      refine lx_next 5 (by rfl) (by decide) ?_
      dsimp only [List.take, List.drop]
      repeat (go_big_quiet_step (fail))
      refine wpQuiet_nil ?_
      refine lx_nil ?_
      intro y hs
      have hxy := Lat.ext0 y
      have hr5 := hs 5 rfl rfl
      rw [u5] at hr5
      have HPC : Hid (CellsAt y.world .i64 pa [(j : Int)]) := Lib.hid (pl2_at hr5)
      clear hs hT hne u3 u4 u5 hr5 HPL
      generalize y.world = w25 at *
      replace HX := Lib.hid (HX.out.trans hxy)
      replace HBB := Lib.hid (HBB.out.ext hxy)
      replace HBX := Lib.hid (HBX.out.ext hxy)
      clear hxy m0 m1 m2 m3 m4 m5 ml n0 n1 n2 n3 nl
      have m0 := HBB.out.cell 0 (v := .int .i64 b.eye) rfl
      have m1 := HBB.out.cell 1 (v := .int .i64 b.bull) rfl
      have m2 := HBB.out.cell 2 (v := .slice a1 b.rings.length a4) rfl
      have m3 := HBB.out.cell 3 (v := .slice a2 b.lines.length a5) rfl
      have m4 := HBB.out.cell 4 (v := .slice a3 b.nums.length a6) rfl
      have m5 := HBB.out.cell 5 (v := .int .i64 b.wire) rfl
      have ml := HBB.out.lt
      have n0 := HBX.out.cell 0 (v := .slice wa worn.length wc) rfl
      have n1 := HBX.out.cell 1 (v := .slice ka wks.length kc) rfl
      have n2 := HBX.out.cell 2 (v := .int .i64 turn) rfl
      have n3 := HBX.out.cell 3 (v := .int .i64 lim) rfl
      have nl := HBX.out.lt
      by_cases hM : 1000000000 < M
      case pos =>
        have e3 := HBO.out
        rw [if_pos hM] at e3
        obtain ⟨rfl, rfl, rfl⟩ : 0 = bk ∧ 0 = bm ∧ 8 = be := by simpa [eq_comm] using e3
        clear e3
        go_wp2_with fail
        refine (HKN.out _).mono ?_
        rintro e w26 ⟨rfl, hx⟩
        go_wp2_with fail
        go_ret
        exact ⟨rfl, HX.out.trans hx⟩
      case neg =>
        have e3 := HBO.out
        rw [if_neg hM] at e3
        obtain ⟨rfl, rfl, rfl⟩ : (j : Int) = bk ∧ M = bm ∧ 0 = be := by simpa [eq_comm] using e3
        obtain ⟨pb, po, e, c0⟩ := HPC.out 0 (by simp)
        subst e
        have c1 := lt_of_cell c0
        simp only [List.getElem_cons_zero, Nat.add_zero] at c0 c1
        have hjj : ((j : Int) == (j : Int)) = true := by simp
        have hMM : (M == M) = true := by simp
        clear e3
        go_wp2_with fail
        refine (HKN.out _).mono ?_
        rintro e w26 ⟨rfl, hx⟩
        go_wp2_with fail
        go_ret
        exact ⟨rfl, HX.out.trans hx⟩
    case neg =>
      have hge : (b.nums.length : Int) ≤ turn := by
        rcases Int.lt_or_le turn (b.nums.length : Int) with h | h
        · rw [ins_one.2 ⟨by omega, by omega⟩] at hkb; cases hkb
        · exact h
      clear hkb
      go_wp2_with fail
      refine (HSZ.out _ (Ext.refl _)).mono ?_
      rintro e w13 ⟨rfl, hx⟩
      clear HSZ HBT HTB r0 r1 r2 r3 r4 r5 rl
      replace HX := Lib.hid (HX.out.trans hx)
      replace HBB := Lib.hid (HBB.out.ext hx)
      replace HBX := Lib.hid (HBX.out.ext hx)
      replace HY := Lib.hid (HY.out.ext hx)
      clear hx m0 m1 m2 m3 m4 m5 ml n0 n1 n2 n3 nl
      have m0 := HBB.out.cell 0 (v := .int .i64 b.eye) rfl
      have m1 := HBB.out.cell 1 (v := .int .i64 b.bull) rfl
      have m2 := HBB.out.cell 2 (v := .slice a1 b.rings.length a4) rfl
      have m3 := HBB.out.cell 3 (v := .slice a2 b.lines.length a5) rfl
      have m4 := HBB.out.cell 4 (v := .slice a3 b.nums.length a6) rfl
      have m5 := HBB.out.cell 5 (v := .int .i64 b.wire) rfl
      have ml := HBB.out.lt
      have n0 := HBX.out.cell 0 (v := .slice wa worn.length wc) rfl
      have n1 := HBX.out.cell 1 (v := .slice ka wks.length kc) rfl
      have n2 := HBX.out.cell 2 (v := .int .i64 turn) rfl
      have n3 := HBX.out.cell 3 (v := .int .i64 lim) rfl
      have nl := HBX.out.lt
      obtain ⟨fm, hfm⟩ : ∃ x, formB b.nums.length worn [wk] = x := ⟨_, rfl⟩
      have HFM := Lib.hid hfm
      have HFO : Hid (∀ W k, Ext w W → WkC W (some ⟨k, 0, none⟩) [wk] → Calls Tryz.prog 16 #[.int .i64 b.nums.length, .slice wa worn.length wc, .slice (some ⟨k, 0, none⟩) 1 1] W fun e w' => e = .returned (.int .i64 fm) ∧ Ext W w') :=
        Lib.hid (fun W k hX h => by rw [← hfm]; exact ref_form b.nums.length worn [wk] wa (some ⟨k, 0, none⟩) wc 1 W (HW.out.ext hX) h (by have := HNL.out; omega) (by simp))
      clear hfm
      go_upto_region 22 with fail
      clear m0 m1 m2 m3 m4 m5 ml n0 n1 n2 n3 nl
      have m0 : ∀ y : Lat NoX w13, y.world.cell? ⟨w.heap.size, 0, none⟩ = some (.int .i64 b.eye) := fun y => (HBB.out.ext (Lat.ext0 y)).cell 0 rfl
      have m1 : ∀ y : Lat NoX w13, y.world.cell? ⟨w.heap.size, 1, none⟩ = some (.int .i64 b.bull) := fun y => (HBB.out.ext (Lat.ext0 y)).cell 1 rfl
      have m2 : ∀ y : Lat NoX w13, y.world.cell? ⟨w.heap.size, 2, none⟩ = some (.slice a1 b.rings.length a4) := fun y => (HBB.out.ext (Lat.ext0 y)).cell 2 rfl
      have m3 : ∀ y : Lat NoX w13, y.world.cell? ⟨w.heap.size, 3, none⟩ = some (.slice a2 b.lines.length a5) := fun y => (HBB.out.ext (Lat.ext0 y)).cell 3 rfl
      have m4 : ∀ y : Lat NoX w13, y.world.cell? ⟨w.heap.size, 4, none⟩ = some (.slice a3 b.nums.length a6) := fun y => (HBB.out.ext (Lat.ext0 y)).cell 4 rfl
      have m5 : ∀ y : Lat NoX w13, y.world.cell? ⟨w.heap.size, 5, none⟩ = some (.int .i64 b.wire) := fun y => (HBB.out.ext (Lat.ext0 y)).cell 5 rfl
      have ml := HBB.out.lt
      have n0 : ∀ y : Lat NoX w13, y.world.cell? ⟨(w.heap.size + 1), 0, none⟩ = some (.slice wa worn.length wc) := fun y => (HBX.out.ext (Lat.ext0 y)).cell 0 rfl
      have n1 : ∀ y : Lat NoX w13, y.world.cell? ⟨(w.heap.size + 1), 1, none⟩ = some (.slice ka wks.length kc) := fun y => (HBX.out.ext (Lat.ext0 y)).cell 1 rfl
      have n2 : ∀ y : Lat NoX w13, y.world.cell? ⟨(w.heap.size + 1), 2, none⟩ = some (.int .i64 turn) := fun y => (HBX.out.ext (Lat.ext0 y)).cell 2 rfl
      have n3 : ∀ y : Lat NoX w13, y.world.cell? ⟨(w.heap.size + 1), 3, none⟩ = some (.int .i64 lim) := fun y => (HBX.out.ext (Lat.ext0 y)).cell 3 rfl
      have nl := HBX.out.lt
      refine wp_region_ext (by kernel_rfl) [.no, .no, .no, .no, .val (.slice ua wk.length uc), .wk1 wk, .val (.int .i64 fm)] (by kernel_rfl) (Nat.le_of_ble_eq_true rfl) ?_
      intro T hT hne u hu
      have u4 : u 4 = .slice ua wk.length uc := hu 4 rfl
      obtain ⟨k22, u5⟩ : WkS (u 5) := hu 5 rfl
      have u6 : u 6 = .int .i64 fm := hu 6 rfl
      clear hu
      refine lx_next 4 (by rfl) (by decide) ?_
      dsimp only [List.take, List.drop]
      repeat (go_big_quiet_step (fail))
      refine wpQuiet_nil ?_
      refine lx_loud (by rfl) (by kernel_rfl) ?_ (fun K hK => ?_)
      · intro L w3 hL hd hcl hC hs
        obtain ⟨y, rfl⟩ := hC
        have hxy := Lat.ext0 y

        go_wp2_with fail
        refine (HWK.out _ (HX.out.trans hxy)).mono ?_
        rintro e w' ⟨rfl, hx⟩
        have HRK := Lib.hid (rik_call (i := 4) y hs rfl hx trivial)
        clear hs
        go_wp2
        exact HRK.out
      rw [u4]
      go_simp
      with_reducible refine hK _ ?_
      clear hK K
      refine lx_loud (by rfl) (by kernel_rfl) ?_ (fun K hK => ?_)
      · intro L w3 hL hd hcl hC hs
        obtain ⟨y, rfl⟩ := hC
        have hxy := Lat.ext0 y

        have HRK := Lib.hid (rik_call (i := 5) y hs (w' := y.world.alloc (.cells #[.slice ua wk.length uc] 24)) (v := .slice (some ⟨y.world.heap.size, 0, none⟩) 1 1) ⟨_, rfl⟩ ((Ext.refl _).alloc _) ⟨_, rfl, WkC.one (HU.out.ext (HX.out.trans hxy)) HUN.out _ rfl⟩)
        clear hs
        go_wp2
        exact HRK.out
      rw [u5]
      go_simp
      with_reducible refine hK _ ?_
      clear hK K
      refine lx_loud (by rfl) (by kernel_rfl) ?_ (fun K hK => ?_)
      · intro L w3 hL hd hcl hC hs
        obtain ⟨y, rfl⟩ := hC
        have hxy := Lat.ext0 y
        have h5 := hs 5 rfl (hd 5 (by kernel_rfl))
        rw [u5] at h5
        go_wp2_with fail
        refine (HFO.out _ _ (HX.out.trans hxy) (wk1_at h5)).mono ?_
        rintro e w' ⟨rfl, hx⟩
        have HRK := Lib.hid (rik_call (i := 6) y hs rfl hx trivial)
        clear hs
        go_wp2
        exact HRK.out
      rw [u6]
      go_simp
      with_reducible refine hK _ ?_
      clear hK K
      refine lx_next 1 (by rfl) (by decide) ?_
      dsimp only [List.take, List.drop]
      repeat (go_big_quiet_step (fail))
      refine wpQuiet_nil ?_
      refine lx_nil ?_
      intro y hs
      have hxy := Lat.ext0 y
      clear hs hT hne u4 u5 u6 HFO
      generalize y.world = w20 at *
      replace HX := Lib.hid (HX.out.trans hxy)
      replace HBB := Lib.hid (HBB.out.ext hxy)
      replace HBX := Lib.hid (HBX.out.ext hxy)
      replace HY := Lib.hid (HY.out.ext hxy)
      clear hxy m0 m1 m2 m3 m4 m5 ml n0 n1 n2 n3 nl
      have m0 := HBB.out.cell 0 (v := .int .i64 b.eye) rfl
      have m1 := HBB.out.cell 1 (v := .int .i64 b.bull) rfl
      have m2 := HBB.out.cell 2 (v := .slice a1 b.rings.length a4) rfl
      have m3 := HBB.out.cell 3 (v := .slice a2 b.lines.length a5) rfl
      have m4 := HBB.out.cell 4 (v := .slice a3 b.nums.length a6) rfl
      have m5 := HBB.out.cell 5 (v := .int .i64 b.wire) rfl
      have ml := HBB.out.lt
      have n0 := HBX.out.cell 0 (v := .slice wa worn.length wc) rfl
      have n1 := HBX.out.cell 1 (v := .slice ka wks.length kc) rfl
      have n2 := HBX.out.cell 2 (v := .int .i64 turn) rfl
      have n3 := HBX.out.cell 3 (v := .int .i64 lim) rfl
      have nl := HBX.out.lt
      have hff : (fm == fm) = true := by simp
      cases d1 : (fm != 0)
      case true =>
        have hf : formB b.nums.length worn [wk] ≠ 0 := by rw [HFM.out]; simpa using d1
        obtain ⟨e2, e3⟩ := wear_form (k := turn) HE0.out hf
        rw [HAW.out, HFM.out] at e2
        rw [HBR.out, HFM.out] at e3
        obtain ⟨rfl, rfl⟩ : [] = aw ∧ fm = ae := by simpa [eq_comm] using e2
        obtain ⟨rfl, rfl, rfl⟩ : 0 = bk ∧ 0 = bm ∧ fm = be := by simpa [eq_comm] using e3
        clear e2 e3 hf
        go_wp2_with fail
        refine (HKN.out _).mono ?_
        rintro e w21 ⟨rfl, hx⟩
        go_wp2_with fail
        go_ret
        exact ⟨rfl, HX.out.trans hx⟩
      case false =>
      obtain rfl : 0 = fm := (show fm = 0 by simpa using d1).symm
      clear d1 hff
      have HF0 := HFM
      have HGF := Lib.hid (form_good HFM.out)
      have e2 := wear_out (worn := worn) (wk := wk) HE0.out HFM.out HKB.out
      rw [HAW.out] at e2
      obtain ⟨rfl, rfl⟩ : [] = aw ∧ 3 = ae := by simpa [eq_comm] using e2
      clear e2
      go_upto_region 31 with fail
      obtain ⟨p, hp⟩ : ∃ p, bestL (plansL [wk] [] worn) = some p := by
        cases h : bestL (plansL [wk] [] worn) with
        | none => exact absurd (bestL_none h) (plansL_ne [wk] [] worn (by have := HNL.out; have := HGF.out.1; omega) (by rw [HGF.out.1]; exact HGF.out.2.1))
        | some p => exact ⟨p, rfl⟩
      obtain ⟨j, -, rfl⟩ := plans_one (bestL_mem hp)
      have hbo := best_of HE0.out HF0.out hp
      rw [HBR.out] at hbo
      obtain ⟨M, hM⟩ : ∃ x, maxL (afterL worn wk j) = x := ⟨_, rfl⟩
      have HPL : Hid (∀ W k, Ext w W → WkC W (some ⟨k, 0, none⟩) [wk] → Calls Tryz.prog 17 #[.slice wa worn.length wc, .slice (some ⟨k, 0, none⟩) 1 1] W fun e w' => ∃ a c, e = .returned (.tuple #[.slice a 1 c, .int .i64 M]) ∧ CellsAt w' .i64 a [(j : Int)] ∧ Ext W w') :=
        Lib.hid (fun W k hX h => by rw [← hM]; exact calls_rplan worn [wk] wa (some ⟨k, 0, none⟩) wc 1 W hp (HW.out.ext hX) h (by have := HNL.out; have := HGF.out.1; omega) HL1.out (by simp) (by rw [HGF.out.1]; exact HGF.out.2.1) (fun y hy => by have := HGF.out.2.2.1 y hy; omega))
      simp only [hM, List.headD_cons] at hbo
      have HBO := Lib.hid hbo
      clear hp hbo hM
      clear m0 m1 m2 m3 m4 m5 ml n0 n1 n2 n3 nl
      have m0 : ∀ y : Lat NoX w20, y.world.cell? ⟨w.heap.size, 0, none⟩ = some (.int .i64 b.eye) := fun y => (HBB.out.ext (Lat.ext0 y)).cell 0 rfl
      have m1 : ∀ y : Lat NoX w20, y.world.cell? ⟨w.heap.size, 1, none⟩ = some (.int .i64 b.bull) := fun y => (HBB.out.ext (Lat.ext0 y)).cell 1 rfl
      have m2 : ∀ y : Lat NoX w20, y.world.cell? ⟨w.heap.size, 2, none⟩ = some (.slice a1 b.rings.length a4) := fun y => (HBB.out.ext (Lat.ext0 y)).cell 2 rfl
      have m3 : ∀ y : Lat NoX w20, y.world.cell? ⟨w.heap.size, 3, none⟩ = some (.slice a2 b.lines.length a5) := fun y => (HBB.out.ext (Lat.ext0 y)).cell 3 rfl
      have m4 : ∀ y : Lat NoX w20, y.world.cell? ⟨w.heap.size, 4, none⟩ = some (.slice a3 b.nums.length a6) := fun y => (HBB.out.ext (Lat.ext0 y)).cell 4 rfl
      have m5 : ∀ y : Lat NoX w20, y.world.cell? ⟨w.heap.size, 5, none⟩ = some (.int .i64 b.wire) := fun y => (HBB.out.ext (Lat.ext0 y)).cell 5 rfl
      have ml := HBB.out.lt
      have n0 : ∀ y : Lat NoX w20, y.world.cell? ⟨(w.heap.size + 1), 0, none⟩ = some (.slice wa worn.length wc) := fun y => (HBX.out.ext (Lat.ext0 y)).cell 0 rfl
      have n1 : ∀ y : Lat NoX w20, y.world.cell? ⟨(w.heap.size + 1), 1, none⟩ = some (.slice ka wks.length kc) := fun y => (HBX.out.ext (Lat.ext0 y)).cell 1 rfl
      have n2 : ∀ y : Lat NoX w20, y.world.cell? ⟨(w.heap.size + 1), 2, none⟩ = some (.int .i64 turn) := fun y => (HBX.out.ext (Lat.ext0 y)).cell 2 rfl
      have n3 : ∀ y : Lat NoX w20, y.world.cell? ⟨(w.heap.size + 1), 3, none⟩ = some (.int .i64 lim) := fun y => (HBX.out.ext (Lat.ext0 y)).cell 3 rfl
      have nl := HBX.out.lt
      refine wp_region_ext (by kernel_rfl) [.no, .no, .no, .val (.slice ua wk.length uc), .wk1 wk, .pl2 [(j : Int)] M] (by kernel_rfl) (Nat.le_of_ble_eq_true rfl) ?_
      intro T hT hne u hu
      have u3 : u 3 = .slice ua wk.length uc := hu 3 rfl
      obtain ⟨k31, u4⟩ : WkS (u 4) := hu 4 rfl
      obtain ⟨pa, pc, u5⟩ : PlnS 1 M (u 5) := hu 5 rfl
      clear hu
      refine lx_next 3 (by rfl) (by decide) ?_
      dsimp only [List.take, List.drop]
      repeat (go_big_quiet_step (fail))
      refine wpQuiet_nil ?_
      refine lx_loud (by rfl) (by kernel_rfl) ?_ (fun K hK => ?_)
      · intro L w3 hL hd hcl hC hs
        obtain ⟨y, rfl⟩ := hC
        have hxy := Lat.ext0 y

        go_wp2_with fail
        refine (HWK.out _ (HX.out.trans hxy)).mono ?_
        rintro e w' ⟨rfl, hx⟩
        have HRK := Lib.hid (rik_call (i := 3) y hs rfl hx trivial)
        clear hs
        go_wp2
        exact HRK.out
      rw [u3]
      go_simp
      with_reducible refine hK _ ?_
      clear hK K
      refine lx_loud (by rfl) (by kernel_rfl) ?_ (fun K hK => ?_)
      · intro L w3 hL hd hcl hC hs
        obtain ⟨y, rfl⟩ := hC
        have hxy := Lat.ext0 y

        have HRK := Lib.hid (rik_call (i := 4) y hs (w' := y.world.alloc (.cells #[.slice ua wk.length uc] 24)) (v := .slice (some ⟨y.world.heap.size, 0, none⟩) 1 1) ⟨_, rfl⟩ ((Ext.refl _).alloc _) ⟨_, rfl, WkC.one (HU.out.ext (HX.out.trans hxy)) HUN.out _ rfl⟩)
        clear hs
        go_wp2
        exact HRK.out
      rw [u4]
      go_simp
      with_reducible refine hK _ ?_
      clear hK K
      refine lx_loud (by rfl) (by kernel_rfl) ?_ (fun K hK => ?_)
      · intro L w3 hL hd hcl hC hs
        obtain ⟨y, rfl⟩ := hC
        have hxy := Lat.ext0 y
        have h4 := hs 4 rfl (hd 4 (by kernel_rfl))
        rw [u4] at h4
        go_wp2_with fail
        refine (HPL.out _ _ (HX.out.trans hxy) (wk1_at h4)).mono ?_
        rintro e w' ⟨xa, xc, rfl, hri, hx⟩
        have HRK := Lib.hid (rik_call (i := 5) y hs ⟨xa, xc, rfl⟩ hx ⟨xa, xc, rfl, hri⟩)
        clear hs
        go_wp2
        exact HRK.out
      rw [u5]
      go_simp
      with_reducible refine hK _ ?_
      clear hK K
      refine lx_next 5 (by rfl) (by decide) ?_
      dsimp only [List.take, List.drop]
      repeat (go_big_quiet_step (fail))
      refine wpQuiet_nil ?_
      refine lx_nil ?_
      intro y hs
      have hxy := Lat.ext0 y
      have hr5 := hs 5 rfl rfl
      rw [u5] at hr5
      have HPC : Hid (CellsAt y.world .i64 pa [(j : Int)]) := Lib.hid (pl2_at hr5)
      clear hs hT hne u3 u4 u5 hr5 HPL
      generalize y.world = w25 at *
      replace HX := Lib.hid (HX.out.trans hxy)
      replace HBB := Lib.hid (HBB.out.ext hxy)
      replace HBX := Lib.hid (HBX.out.ext hxy)
      clear hxy m0 m1 m2 m3 m4 m5 ml n0 n1 n2 n3 nl
      have m0 := HBB.out.cell 0 (v := .int .i64 b.eye) rfl
      have m1 := HBB.out.cell 1 (v := .int .i64 b.bull) rfl
      have m2 := HBB.out.cell 2 (v := .slice a1 b.rings.length a4) rfl
      have m3 := HBB.out.cell 3 (v := .slice a2 b.lines.length a5) rfl
      have m4 := HBB.out.cell 4 (v := .slice a3 b.nums.length a6) rfl
      have m5 := HBB.out.cell 5 (v := .int .i64 b.wire) rfl
      have ml := HBB.out.lt
      have n0 := HBX.out.cell 0 (v := .slice wa worn.length wc) rfl
      have n1 := HBX.out.cell 1 (v := .slice ka wks.length kc) rfl
      have n2 := HBX.out.cell 2 (v := .int .i64 turn) rfl
      have n3 := HBX.out.cell 3 (v := .int .i64 lim) rfl
      have nl := HBX.out.lt
      by_cases hM : 1000000000 < M
      case pos =>
        have e3 := HBO.out
        rw [if_pos hM] at e3
        obtain ⟨rfl, rfl, rfl⟩ : 0 = bk ∧ 0 = bm ∧ 8 = be := by simpa [eq_comm] using e3
        clear e3
        go_wp2_with fail
        refine (HKN.out _).mono ?_
        rintro e w26 ⟨rfl, hx⟩
        go_wp2_with fail
        go_ret
        exact ⟨rfl, HX.out.trans hx⟩
      case neg =>
        have e3 := HBO.out
        rw [if_neg hM] at e3
        obtain ⟨rfl, rfl, rfl⟩ : (j : Int) = bk ∧ M = bm ∧ 0 = be := by simpa [eq_comm] using e3
        obtain ⟨pb, po, e, c0⟩ := HPC.out 0 (by simp)
        subst e
        have c1 := lt_of_cell c0
        simp only [List.getElem_cons_zero, Nat.add_zero] at c0 c1
        have hjj : ((j : Int) == (j : Int)) = true := by simp
        have hMM : (M == M) = true := by simp
        clear e3
        go_wp2_with fail
        refine (HKN.out _).mono ?_
        rintro e w26 ⟨rfl, hx⟩
        go_wp2_with fail
        go_ret
        exact ⟨rfl, HX.out.trans hx⟩
  case true =>
    obtain ⟨K, rfl, hK⟩ := sat_turn (by have := HNL.out; omega) hkb
    have HKB := Lib.hid hkb
    have e1 := turn_in HE0.out hkb
    rw [HT.out, Int.toNat_natCast] at e1
    obtain ⟨f0, f1⟩ := Prod.mk.inj e1
    subst f0 f1
    clear e1
    have HTLN := Lib.hid (turnL_len b.nums K (by omega))
    replace HBT : Hid (Blk w12 k8 #[.int .i64 b.eye, .int .i64 b.bull, .slice t1 b.rings.length t4, .slice t2 b.lines.length t5, .slice t3 b.nums.length t6, .int .i64 b.wire]) := Lib.hid (by have := HBT.out; simp only [HTLN.out] at this; exact this)
    have HSB : Hid (∀ W g1 g2 g c1 c2 c3, BrdAt W ⟨t1, t2, t3, t4, t5, t6⟩ ⟨b.eye, b.bull, b.rings, b.lines, turnL b.nums K, b.wire⟩ → BrdAt W ⟨g1, g2, g, c1, c2, c3⟩ ⟨b.eye, b.bull, b.rings, b.lines, turnL b.nums K, b.wire⟩ →
        Calls Tryz.prog 23 #[.agg #[.int .i64 b.eye, .int .i64 b.bull, .slice t1 b.rings.length t4, .slice t2 b.lines.length t5, .slice t3 b.nums.length t6, .int .i64 b.wire], .agg #[.int .i64 b.eye, .int .i64 b.bull, .slice g1 b.rings.length c1, .slice g2 b.lines.length c2, .slice g b.nums.length c3, .int .i64 b.wire]] W fun e w' => e = .returned (.bool true) ∧ Ext W w') := Lib.hid (fun W g1 g2 g c1 c2 c3 h1 h2 => by
      have := law_same ⟨t1, t2, t3, t4, t5, t6⟩ ⟨g1, g2, g, c1, c2, c3⟩ _ _ W h1 h2 ⟨HSM.out.r, HSM.out.l, by rw [HTLN.out]; exact HSM.out.n⟩
      rw [same_self] at this
      unfold BrdV.cells at this
      simp only [HTLN.out] at this
      exact this)
    dsimp only
    rw [HTLN.out]
    have HPT := Lib.hid (fun j h => putN_step b.nums K j h)
    have HPL := Lib.hid (putN_len b.nums K)
    have HPA := Lib.hid (putN_all b.nums K hK)
    have HP0 : Hid (putN b.nums K 0 = b.nums) := Lib.hid rfl
    have hk1 : ¬ ((K : Int) < 0) := by omega
    have hk2 : ¬ ((b.nums.length : Int) ≤ (K : Int)) := by omega
    have HRT := Lib.hid (fun W hx => law_right a1 a2 a3 a4 a5 a6 b W hx HN.out HSM.out HNL.out.1)
    clear hkb
    go_wp2_with fail
    refine (HRT.out _ (HB.out.ext HX.out)).mono ?_
    rintro e w13 ⟨g1, g2, g, c1, c2, c3, rfl, hg1, hg2, hO, hRP, hx⟩
    go_upto_region 16 with fail
    obtain ⟨k17, hk17⟩ : ∃ k, k = w13.heap.size := ⟨_, rfl⟩
    obtain ⟨w14, hw14⟩ : ∃ y, y = w13.alloc (.cells #[.int .i64 b.eye, .int .i64 b.bull, .slice g1 b.rings.length c1, .slice g2 b.lines.length c2, .slice (some ⟨g, 0, none⟩) b.nums.length c3, .int .i64 b.wire] 26) := ⟨_, rfl⟩
    rw [← hw14, ← hk17]
    have hx14 : Ext w13 w14 := by rw [hw14]; exact (Ext.refl w13).alloc _
    have HRB : Hid (Blk w14 k17 #[.int .i64 b.eye, .int .i64 b.bull, .slice g1 b.rings.length c1, .slice g2 b.lines.length c2, .slice (some ⟨g, 0, none⟩) b.nums.length c3, .int .i64 b.wire]) := Lib.hid (by rw [hw14, hk17]; exact Blk.new _ _ _)
    have HX14 := Lib.hid (hx.trans hx14)
    have HBB14 := Lib.hid (HBB.out.ext HX14.out)
    have HBX14 := Lib.hid (HBX.out.ext HX14.out)
    have HO14 := Lib.hid (hO.ext hx14)
    have HRP : Hid (∀ W, Chg (· = g) w14 W → RgsAt W g1 b.rings ∧ PtsAt W g2 b.lines) := Lib.hid (fun W hc => hRP W ((hx14.chg _).trans hc))
    have HG1 := Lib.hid hg1
    have hgk : ¬ (k17 = g) := by omega
    have hbw := HBX.out.lt
    have HSZ : Hid (w.heap.size + 1 < g) := Lib.hid (by omega)
    clear hw14 hk17 hx hx14 hO hRP hg2 hg1 hbw
    clear m0 m1 m2 m3 m4 m5 ml n0 n1 n2 n3 nl
    have hn20 : b.nums.length ≤ 20 := by have := HNL.out; omega
    go_wp2
    go_loopw [18] (fun i wr => ∃ j : Nat, j ≤ b.nums.length ∧ i = .int .i64 j ∧ OwnI wr w12.heap.size (.slice (some ⟨g, 0, none⟩) b.nums.length c3) (putN b.nums K j) ∧ Chg (· = g) w14 wr) (fun i _ => b.nums.length - (intOf i).toNat)
    case atStart => exact ⟨0, Nat.zero_le _, rfl, by rw [HP0.out]; exact HO14.out, Chg.refl _ _⟩
    case round =>
      obtain ⟨j, hj, rfl, hO, hC⟩ := hrel
      have HO := Lib.hid hO
      have HC := Lib.hid hC
      clear hO hC
      have MB := HBB14.out.chg HC.out (by show ¬ w.heap.size = g; have := HSZ.out; omega)
      have MX := HBX14.out.chg HC.out (by show ¬ w.heap.size + 1 = g; have := HSZ.out; omega)
      have MR := HRB.out.chg HC.out hgk
      by_cases hlt : j < b.nums.length
      · have hlb : j < b.nums.length := by omega
        obtain ⟨q, old, hq, hqe, hget, hset⟩ := HPT.out j hlb
        have HST := Lib.hid hset
        obtain ⟨r0', r1', r2'⟩ := own_at HO.out q old hget
        obtain ⟨bb, bo, e, cb⟩ := HB.out.nums j hlb
        have hbb := lt_of_cell cb
        simp only at hbb
        replace cb := HC.out.cell ((HX.out.trans HX14.out).cell cb) (by show ¬ bb = g; have := HSZ.out; omega)
        have hbl := lt_of_cell cb
        simp only at hbl e
        subst e
        have m0 := MB.cell 0 (v := .int .i64 b.eye) rfl
        have m1 := MB.cell 1 (v := .int .i64 b.bull) rfl
        have m2 := MB.cell 2 (v := .slice a1 b.rings.length a4) rfl
        have m3 := MB.cell 3 (v := .slice a2 b.lines.length a5) rfl
        have m4 := MB.cell 4 (v := .slice (some ⟨bb, bo, none⟩) b.nums.length a6) rfl
        have m5 := MB.cell 5 (v := .int .i64 b.wire) rfl
        have ml := MB.lt
        have n0 := MX.cell 0 (v := .slice wa worn.length wc) rfl
        have n1 := MX.cell 1 (v := .slice ka wks.length kc) rfl
        have n2 := MX.cell 2 (v := .int .i64 K) rfl
        have n3 := MX.cell 3 (v := .int .i64 lim) rfl
        have nl := MX.lt
        have s0 := MR.cell 0 (v := .int .i64 b.eye) rfl
        have s1 := MR.cell 1 (v := .int .i64 b.bull) rfl
        have s2 := MR.cell 2 (v := .slice g1 b.rings.length c1) rfl
        have s3 := MR.cell 3 (v := .slice g2 b.lines.length c2) rfl
        have s4 := MR.cell 4 (v := .slice (some ⟨g, 0, none⟩) b.nums.length c3) rfl
        have s5 := MR.cell 5 (v := .int .i64 b.wire) rfl
        have sl := MR.lt
        generalize b.nums[j] = yv at *
        have HQL := Lib.hid (show q < (putN b.nums K j).length by rw [HPL.out]; exact hq)
        have hqm : ((j : Int) + (K : Int)).tmod (b.nums.length : Int) = (q : Int) := by rw [← hqe]; norm_cast
        have hz2 : ¬ (b.nums.length = 0) := by omega
        have hwr : IntKind.i64.wrap ((j : Int) + (K : Int)) = (j : Int) + (K : Int) := wrap_i64_in (by unfold I64; omega)
        have hrm : ∀ W, (binOp .rem 3 (.int .i64 ((j : Int) + (K : Int))) (.int .i64 (b.nums.length : Int))).run Tryz.prog W = .ok (.int .i64 (q : Int)) W := by
          intro W
          simp [binOp, go_sem, hz2, hqm]
        clear hset hget hqe hlb MB MX MR
        go_upto_region 19 with fail
        go_still_tail 14, (by kernel_rfl)
        change wpList _ _ _ _ _ wr.drew
        go_wp2
        have hO' := (HO.out.ext (Ext.refl wr).drew).set (i := q) (n := b.nums.length) (by rw [HPL.out]) yv
        rw [← HST.out] at hO'
        have HO' := Lib.hid hO'
        have HC' := Lib.hid (HC.out.drew.setCell (p := ⟨g, q, none⟩) (.inr rfl) (.int .i64 yv))
        clear hO'
        go_roundw
        case rel => exact ⟨j + 1, by omega, by go_num, HO'.out, HC'.out⟩
        case measure => simp [intOf]; omega
      · obtain rfl : b.nums.length = j := by omega
        obtain ⟨w15, rfl⟩ : ∃ y, y = wr := ⟨_, rfl⟩
        have hx : Ext w12 w15 := Chg.to_ext HX14.out HC.out (fun i hi => by rw [hi]; exact HG1.out)
        obtain ⟨hr1, hr2⟩ := HRP.out _ HC.out
        have hnm : CellsAt w15 .i64 (some ⟨g, 0, none⟩) (turnL b.nums K) := by
          have := (own_rd HO.out).2
          rw [HPA.out] at this
          exact this
        have HTG : Hid (BrdAt w15 ⟨g1, g2, some ⟨g, 0, none⟩, c1, c2, c3⟩ ⟨b.eye, b.bull, b.rings, b.lines, turnL b.nums K, b.wire⟩) := Lib.hid ⟨hr1, hr2, hnm⟩
        replace HRB := Lib.hid MR
        clear hr1 hr2 hnm MB MX MR HO HC HBB14 HBX14 HO14 HRP HPT HPL HPA HP0
        replace HX := Lib.hid (HX.out.trans hx)
        replace HBB := Lib.hid (HBB.out.ext hx)
        replace HBX := Lib.hid (HBX.out.ext hx)
        replace HTB := Lib.hid (HTB.out.ext hx)
        replace HBT := Lib.hid (HBT.out.ext hx)
        replace HY := Lib.hid (HY.out.ext hx)
        clear hx
        have m0 := HBB.out.cell 0 (v := .int .i64 b.eye) rfl
        have m1 := HBB.out.cell 1 (v := .int .i64 b.bull) rfl
        have m2 := HBB.out.cell 2 (v := .slice a1 b.rings.length a4) rfl
        have m3 := HBB.out.cell 3 (v := .slice a2 b.lines.length a5) rfl
        have m4 := HBB.out.cell 4 (v := .slice a3 b.nums.length a6) rfl
        have m5 := HBB.out.cell 5 (v := .int .i64 b.wire) rfl
        have ml := HBB.out.lt
        have n0 := HBX.out.cell 0 (v := .slice wa worn.length wc) rfl
        have n1 := HBX.out.cell 1 (v := .slice ka wks.length kc) rfl
        have n2 := HBX.out.cell 2 (v := .int .i64 K) rfl
        have n3 := HBX.out.cell 3 (v := .int .i64 lim) rfl
        have nl := HBX.out.lt
        have r0 := HBT.out.cell 0 (v := .int .i64 b.eye) rfl
        have r1 := HBT.out.cell 1 (v := .int .i64 b.bull) rfl
        have r2 := HBT.out.cell 2 (v := .slice t1 b.rings.length t4) rfl
        have r3 := HBT.out.cell 3 (v := .slice t2 b.lines.length t5) rfl
        have r4 := HBT.out.cell 4 (v := .slice t3 b.nums.length t6) rfl
        have r5 := HBT.out.cell 5 (v := .int .i64 b.wire) rfl
        have rl := HBT.out.lt
        have s0 := HRB.out.cell 0 (v := .int .i64 b.eye) rfl
        have s1 := HRB.out.cell 1 (v := .int .i64 b.bull) rfl
        have s2 := HRB.out.cell 2 (v := .slice g1 b.rings.length c1) rfl
        have s3 := HRB.out.cell 3 (v := .slice g2 b.lines.length c2) rfl
        have s4 := HRB.out.cell 4 (v := .slice (some ⟨g, 0, none⟩) b.nums.length c3) rfl
        have s5 := HRB.out.cell 5 (v := .int .i64 b.wire) rfl
        have sl := HRB.out.lt
        go_wp2_with fail
        refine (HSB.out _ _ _ _ _ _ _ HTB.out HTG.out).mono ?_
        rintro e w16 ⟨rfl, hx⟩
        clear HSB HBT HTB HRB HTG r0 r1 r2 r3 r4 r5 rl s0 s1 s2 s3 s4 s5 sl
        replace HX := Lib.hid (HX.out.trans hx)
        replace HBB := Lib.hid (HBB.out.ext hx)
        replace HBX := Lib.hid (HBX.out.ext hx)
        replace HY := Lib.hid (HY.out.ext hx)
        clear hx m0 m1 m2 m3 m4 m5 ml n0 n1 n2 n3 nl
        have m0 := HBB.out.cell 0 (v := .int .i64 b.eye) rfl
        have m1 := HBB.out.cell 1 (v := .int .i64 b.bull) rfl
        have m2 := HBB.out.cell 2 (v := .slice a1 b.rings.length a4) rfl
        have m3 := HBB.out.cell 3 (v := .slice a2 b.lines.length a5) rfl
        have m4 := HBB.out.cell 4 (v := .slice a3 b.nums.length a6) rfl
        have m5 := HBB.out.cell 5 (v := .int .i64 b.wire) rfl
        have ml := HBB.out.lt
        have n0 := HBX.out.cell 0 (v := .slice wa worn.length wc) rfl
        have n1 := HBX.out.cell 1 (v := .slice ka wks.length kc) rfl
        have n2 := HBX.out.cell 2 (v := .int .i64 K) rfl
        have n3 := HBX.out.cell 3 (v := .int .i64 lim) rfl
        have nl := HBX.out.lt
        obtain ⟨fm, hfm⟩ : ∃ x, formB b.nums.length worn [wk] = x := ⟨_, rfl⟩
        have HFM := Lib.hid hfm
        have HFO : Hid (∀ W k, Ext w W → WkC W (some ⟨k, 0, none⟩) [wk] → Calls Tryz.prog 16 #[.int .i64 b.nums.length, .slice wa worn.length wc, .slice (some ⟨k, 0, none⟩) 1 1] W fun e w' => e = .returned (.int .i64 fm) ∧ Ext W w') :=
          Lib.hid (fun W k hX h => by rw [← hfm]; exact ref_form b.nums.length worn [wk] wa (some ⟨k, 0, none⟩) wc 1 W (HW.out.ext hX) h (by have := HNL.out; omega) (by simp))
        clear hfm
        go_upto_region 22 with fail
        clear m0 m1 m2 m3 m4 m5 ml n0 n1 n2 n3 nl
        have m0 : ∀ y : Lat NoX w16, y.world.cell? ⟨w.heap.size, 0, none⟩ = some (.int .i64 b.eye) := fun y => (HBB.out.ext (Lat.ext0 y)).cell 0 rfl
        have m1 : ∀ y : Lat NoX w16, y.world.cell? ⟨w.heap.size, 1, none⟩ = some (.int .i64 b.bull) := fun y => (HBB.out.ext (Lat.ext0 y)).cell 1 rfl
        have m2 : ∀ y : Lat NoX w16, y.world.cell? ⟨w.heap.size, 2, none⟩ = some (.slice a1 b.rings.length a4) := fun y => (HBB.out.ext (Lat.ext0 y)).cell 2 rfl
        have m3 : ∀ y : Lat NoX w16, y.world.cell? ⟨w.heap.size, 3, none⟩ = some (.slice a2 b.lines.length a5) := fun y => (HBB.out.ext (Lat.ext0 y)).cell 3 rfl
        have m4 : ∀ y : Lat NoX w16, y.world.cell? ⟨w.heap.size, 4, none⟩ = some (.slice a3 b.nums.length a6) := fun y => (HBB.out.ext (Lat.ext0 y)).cell 4 rfl
        have m5 : ∀ y : Lat NoX w16, y.world.cell? ⟨w.heap.size, 5, none⟩ = some (.int .i64 b.wire) := fun y => (HBB.out.ext (Lat.ext0 y)).cell 5 rfl
        have ml := HBB.out.lt
        have n0 : ∀ y : Lat NoX w16, y.world.cell? ⟨(w.heap.size + 1), 0, none⟩ = some (.slice wa worn.length wc) := fun y => (HBX.out.ext (Lat.ext0 y)).cell 0 rfl
        have n1 : ∀ y : Lat NoX w16, y.world.cell? ⟨(w.heap.size + 1), 1, none⟩ = some (.slice ka wks.length kc) := fun y => (HBX.out.ext (Lat.ext0 y)).cell 1 rfl
        have n2 : ∀ y : Lat NoX w16, y.world.cell? ⟨(w.heap.size + 1), 2, none⟩ = some (.int .i64 K) := fun y => (HBX.out.ext (Lat.ext0 y)).cell 2 rfl
        have n3 : ∀ y : Lat NoX w16, y.world.cell? ⟨(w.heap.size + 1), 3, none⟩ = some (.int .i64 lim) := fun y => (HBX.out.ext (Lat.ext0 y)).cell 3 rfl
        have nl := HBX.out.lt
        refine wp_region_ext (by kernel_rfl) [.no, .no, .no, .no, .val (.slice ua wk.length uc), .wk1 wk, .val (.int .i64 fm)] (by kernel_rfl) (Nat.le_of_ble_eq_true rfl) ?_
        intro T hT hne u hu
        have u4 : u 4 = .slice ua wk.length uc := hu 4 rfl
        obtain ⟨k22, u5⟩ : WkS (u 5) := hu 5 rfl
        have u6 : u 6 = .int .i64 fm := hu 6 rfl
        clear hu
        refine lx_next 4 (by rfl) (by decide) ?_
        dsimp only [List.take, List.drop]
        repeat (go_big_quiet_step (fail))
        refine wpQuiet_nil ?_
        refine lx_loud (by rfl) (by kernel_rfl) ?_ (fun K hK => ?_)
        · intro L w3 hL hd hcl hC hs
          obtain ⟨y, rfl⟩ := hC
          have hxy := Lat.ext0 y

          go_wp2_with fail
          refine (HWK.out _ (HX.out.trans hxy)).mono ?_
          rintro e w' ⟨rfl, hx⟩
          have HRK := Lib.hid (rik_call (i := 4) y hs rfl hx trivial)
          clear hs
          go_wp2
          exact HRK.out
        rw [u4]
        go_simp
        with_reducible refine hK _ ?_
        clear hK K
        refine lx_loud (by rfl) (by kernel_rfl) ?_ (fun K hK => ?_)
        · intro L w3 hL hd hcl hC hs
          obtain ⟨y, rfl⟩ := hC
          have hxy := Lat.ext0 y

          have HRK := Lib.hid (rik_call (i := 5) y hs (w' := y.world.alloc (.cells #[.slice ua wk.length uc] 24)) (v := .slice (some ⟨y.world.heap.size, 0, none⟩) 1 1) ⟨_, rfl⟩ ((Ext.refl _).alloc _) ⟨_, rfl, WkC.one (HU.out.ext (HX.out.trans hxy)) HUN.out _ rfl⟩)
          clear hs
          go_wp2
          exact HRK.out
        rw [u5]
        go_simp
        with_reducible refine hK _ ?_
        clear hK K
        refine lx_loud (by rfl) (by kernel_rfl) ?_ (fun K hK => ?_)
        · intro L w3 hL hd hcl hC hs
          obtain ⟨y, rfl⟩ := hC
          have hxy := Lat.ext0 y
          have h5 := hs 5 rfl (hd 5 (by kernel_rfl))
          rw [u5] at h5
          go_wp2_with fail
          refine (HFO.out _ _ (HX.out.trans hxy) (wk1_at h5)).mono ?_
          rintro e w' ⟨rfl, hx⟩
          have HRK := Lib.hid (rik_call (i := 6) y hs rfl hx trivial)
          clear hs
          go_wp2
          exact HRK.out
        rw [u6]
        go_simp
        with_reducible refine hK _ ?_
        clear hK K
        refine lx_next 1 (by rfl) (by decide) ?_
        dsimp only [List.take, List.drop]
        repeat (go_big_quiet_step (fail))
        refine wpQuiet_nil ?_
        refine lx_nil ?_
        intro y hs
        have hxy := Lat.ext0 y
        clear hs hT hne u4 u5 u6 HFO
        generalize y.world = w20 at *
        replace HX := Lib.hid (HX.out.trans hxy)
        replace HBB := Lib.hid (HBB.out.ext hxy)
        replace HBX := Lib.hid (HBX.out.ext hxy)
        replace HY := Lib.hid (HY.out.ext hxy)
        clear hxy m0 m1 m2 m3 m4 m5 ml n0 n1 n2 n3 nl
        have m0 := HBB.out.cell 0 (v := .int .i64 b.eye) rfl
        have m1 := HBB.out.cell 1 (v := .int .i64 b.bull) rfl
        have m2 := HBB.out.cell 2 (v := .slice a1 b.rings.length a4) rfl
        have m3 := HBB.out.cell 3 (v := .slice a2 b.lines.length a5) rfl
        have m4 := HBB.out.cell 4 (v := .slice a3 b.nums.length a6) rfl
        have m5 := HBB.out.cell 5 (v := .int .i64 b.wire) rfl
        have ml := HBB.out.lt
        have n0 := HBX.out.cell 0 (v := .slice wa worn.length wc) rfl
        have n1 := HBX.out.cell 1 (v := .slice ka wks.length kc) rfl
        have n2 := HBX.out.cell 2 (v := .int .i64 K) rfl
        have n3 := HBX.out.cell 3 (v := .int .i64 lim) rfl
        have nl := HBX.out.lt
        have hff : (fm == fm) = true := by simp
        cases d1 : (fm != 0)
        case true =>
          have hf : formB b.nums.length worn [wk] ≠ 0 := by rw [HFM.out]; simpa using d1
          obtain ⟨e2, e3⟩ := wear_form (k := (K : Int)) HE0.out hf
          rw [HAW.out, HFM.out] at e2
          rw [HBR.out, HFM.out] at e3
          obtain ⟨rfl, rfl⟩ : [] = aw ∧ fm = ae := by simpa [eq_comm] using e2
          obtain ⟨rfl, rfl, rfl⟩ : 0 = bk ∧ 0 = bm ∧ fm = be := by simpa [eq_comm] using e3
          clear e2 e3 hf
          go_wp2_with fail
          refine (HKN.out _).mono ?_
          rintro e w21 ⟨rfl, hx⟩
          go_wp2_with fail
          go_ret
          exact ⟨rfl, HX.out.trans hx⟩
        case false =>
        obtain rfl : 0 = fm := (show fm = 0 by simpa using d1).symm
        clear d1 hff
        have HF0 := HFM
        have HGF := Lib.hid (form_good HFM.out)
        obtain ⟨ws, hws⟩ : ∃ x, afterL worn wk K = x := ⟨_, rfl⟩
        have HWS := Lib.hid hws
        obtain ⟨hg1, hg2, hg3, -⟩ := HGF.out
        obtain ⟨hg4, hg5⟩ := hg2 wk (by simp)
        have HRW : Hid (∀ W, Ext w W → Calls Tryz.prog 19 #[.slice wa worn.length wc, .slice ua wk.length uc, .int .i64 K] W fun e w' => ∃ a c, e = .returned (.slice a ws.length c) ∧ RdI S0 w' (.slice a ws.length c) ws ∧ Ext W w') :=
          Lib.hid (fun W hX => by rw [← hws]; exact calls_rwear worn wk wa ua wc uc K W (HW.out.ext hX) (HU.out.ext hX) (by omega) (by omega) (by have := HNL.out; omega) (fun y hy => by have := hg3 y hy; omega) (fun y hy => by have := hg5 y hy; omega))
        have HWL : Hid (0 < ws.length ∧ ws.length ≤ 20) := Lib.hid (by rw [← hws, afterL_len worn wk K (by omega) (by omega)]; have := HNL.out; omega)
        have e2 := wear_in (worn := worn) (wk := wk) HE0.out HFM.out HKB.out
        rw [HAW.out, Int.toNat_natCast, hws] at e2
        have HE2 := Lib.hid e2
        clear hws hg1 hg2 hg3 hg4 hg5 e2
        go_upto_region 28 with fail
        clear m0 m1 m2 m3 m4 m5 ml n0 n1 n2 n3 nl
        have m0 : ∀ y : Lat NoX w20, y.world.cell? ⟨w.heap.size, 0, none⟩ = some (.int .i64 b.eye) := fun y => (HBB.out.ext (Lat.ext0 y)).cell 0 rfl
        have m1 : ∀ y : Lat NoX w20, y.world.cell? ⟨w.heap.size, 1, none⟩ = some (.int .i64 b.bull) := fun y => (HBB.out.ext (Lat.ext0 y)).cell 1 rfl
        have m2 : ∀ y : Lat NoX w20, y.world.cell? ⟨w.heap.size, 2, none⟩ = some (.slice a1 b.rings.length a4) := fun y => (HBB.out.ext (Lat.ext0 y)).cell 2 rfl
        have m3 : ∀ y : Lat NoX w20, y.world.cell? ⟨w.heap.size, 3, none⟩ = some (.slice a2 b.lines.length a5) := fun y => (HBB.out.ext (Lat.ext0 y)).cell 3 rfl
        have m4 : ∀ y : Lat NoX w20, y.world.cell? ⟨w.heap.size, 4, none⟩ = some (.slice a3 b.nums.length a6) := fun y => (HBB.out.ext (Lat.ext0 y)).cell 4 rfl
        have m5 : ∀ y : Lat NoX w20, y.world.cell? ⟨w.heap.size, 5, none⟩ = some (.int .i64 b.wire) := fun y => (HBB.out.ext (Lat.ext0 y)).cell 5 rfl
        have ml := HBB.out.lt
        have n0 : ∀ y : Lat NoX w20, y.world.cell? ⟨(w.heap.size + 1), 0, none⟩ = some (.slice wa worn.length wc) := fun y => (HBX.out.ext (Lat.ext0 y)).cell 0 rfl
        have n1 : ∀ y : Lat NoX w20, y.world.cell? ⟨(w.heap.size + 1), 1, none⟩ = some (.slice ka wks.length kc) := fun y => (HBX.out.ext (Lat.ext0 y)).cell 1 rfl
        have n2 : ∀ y : Lat NoX w20, y.world.cell? ⟨(w.heap.size + 1), 2, none⟩ = some (.int .i64 K) := fun y => (HBX.out.ext (Lat.ext0 y)).cell 2 rfl
        have n3 : ∀ y : Lat NoX w20, y.world.cell? ⟨(w.heap.size + 1), 3, none⟩ = some (.int .i64 lim) := fun y => (HBX.out.ext (Lat.ext0 y)).cell 3 rfl
        have nl := HBX.out.lt
        refine wp_region_ext (by kernel_rfl) [.no, .no, .no, .val (.slice ua wk.length uc), .no, .no, .rdi ws] (by kernel_rfl) (Nat.le_of_ble_eq_true rfl) ?_
        intro T hT hne u hu
        have u3 : u 3 = .slice ua wk.length uc := hu 3 rfl
        obtain ⟨ra, rc, u6⟩ : SlcS ws.length (u 6) := hu 6 rfl
        clear hu
        refine lx_next 3 (by rfl) (by decide) ?_
        dsimp only [List.take, List.drop]
        repeat (go_big_quiet_step (fail))
        refine wpQuiet_nil ?_
        refine lx_loud (by rfl) (by kernel_rfl) ?_ (fun K hK => ?_)
        · intro L w3 hL hd hcl hC hs
          obtain ⟨y, rfl⟩ := hC
          have hxy := Lat.ext0 y

          go_wp2_with fail
          refine (HWK.out _ (HX.out.trans hxy)).mono ?_
          rintro e w' ⟨rfl, hx⟩
          have HRK := Lib.hid (rik_call (i := 3) y hs rfl hx trivial)
          clear hs
          go_wp2
          exact HRK.out
        rw [u3]
        go_simp
        with_reducible refine hK _ ?_
        clear hK K
        refine lx_next 2 (by rfl) (by decide) ?_
        dsimp only [List.take, List.drop]
        repeat (go_big_quiet_step (fail))
        refine wpQuiet_nil ?_
        refine lx_loud (by rfl) (by kernel_rfl) ?_ (fun K hK => ?_)
        · intro L w3 hL hd hcl hC hs
          obtain ⟨y, rfl⟩ := hC
          have hxy := Lat.ext0 y

          go_wp2_with fail
          refine (HRW.out _ (HX.out.trans hxy)).mono ?_
          rintro e w' ⟨xa, xc, rfl, hri, hx⟩
          have HRK := Lib.hid (rik_call (i := 6) y hs ⟨xa, xc, rfl⟩ hx hri)
          clear hs
          go_wp2
          exact HRK.out
        rw [u6]
        go_simp
        with_reducible refine hK _ ?_
        clear hK K
        refine lx_next 1 (by rfl) (by decide) ?_
        dsimp only [List.take, List.drop]
        repeat (go_big_quiet_step (fail))
        refine wpQuiet_nil ?_
        refine lx_nil ?_
        intro y hs
        have hxy := Lat.ext0 y
        have hr6 := hs 6 rfl rfl
        rw [u6] at hr6
        have HRI : Hid (RdI S0 y.world (.slice ra ws.length rc) ws) := Lib.hid hr6
        clear hs hT hne u3 u6 hr6 HRW
        generalize y.world = w21 at *
        replace HX := Lib.hid (HX.out.trans hxy)
        replace HBB := Lib.hid (HBB.out.ext hxy)
        replace HBX := Lib.hid (HBX.out.ext hxy)
        replace HY := Lib.hid (HY.out.ext hxy)
        clear hxy m0 m1 m2 m3 m4 m5 ml n0 n1 n2 n3 nl
        have m0 := HBB.out.cell 0 (v := .int .i64 b.eye) rfl
        have m1 := HBB.out.cell 1 (v := .int .i64 b.bull) rfl
        have m2 := HBB.out.cell 2 (v := .slice a1 b.rings.length a4) rfl
        have m3 := HBB.out.cell 3 (v := .slice a2 b.lines.length a5) rfl
        have m4 := HBB.out.cell 4 (v := .slice a3 b.nums.length a6) rfl
        have m5 := HBB.out.cell 5 (v := .int .i64 b.wire) rfl
        have ml := HBB.out.lt
        have n0 := HBX.out.cell 0 (v := .slice wa worn.length wc) rfl
        have n1 := HBX.out.cell 1 (v := .slice ka wks.length kc) rfl
        have n2 := HBX.out.cell 2 (v := .int .i64 K) rfl
        have n3 := HBX.out.cell 3 (v := .int .i64 lim) rfl
        have nl := HBX.out.lt
        have HMO := Lib.hid (fun W hx => ref_most ws ra rc W hx HWL.out.1 (by have := HWL.out.2; omega))
        obtain ⟨mw, hmw⟩ : ∃ x, maxL ws = x := ⟨_, rfl⟩
        rw [hmw] at HMO HE2
        clear hmw
        go_wp2_with fail
        refine (HMO.out _ (rd_cells HRI.out)).mono ?_
        rintro e w22 ⟨rfl, hx⟩
        replace HX := Lib.hid (HX.out.trans hx)
        replace HBB := Lib.hid (HBB.out.ext hx)
        replace HBX := Lib.hid (HBX.out.ext hx)
        replace HY := Lib.hid (HY.out.ext hx)
        replace HRI := Lib.hid (HRI.out.ext hx)
        clear hx m0 m1 m2 m3 m4 m5 ml n0 n1 n2 n3 nl
        have m0 := HBB.out.cell 0 (v := .int .i64 b.eye) rfl
        have m1 := HBB.out.cell 1 (v := .int .i64 b.bull) rfl
        have m2 := HBB.out.cell 2 (v := .slice a1 b.rings.length a4) rfl
        have m3 := HBB.out.cell 3 (v := .slice a2 b.lines.length a5) rfl
        have m4 := HBB.out.cell 4 (v := .slice a3 b.nums.length a6) rfl
        have m5 := HBB.out.cell 5 (v := .int .i64 b.wire) rfl
        have ml := HBB.out.lt
        have n0 := HBX.out.cell 0 (v := .slice wa worn.length wc) rfl
        have n1 := HBX.out.cell 1 (v := .slice ka wks.length kc) rfl
        have n2 := HBX.out.cell 2 (v := .int .i64 K) rfl
        have n3 := HBX.out.cell 3 (v := .int .i64 lim) rfl
        have nl := HBX.out.lt
        by_cases hfull : 1000000000 < mw
        case pos =>
          have hfu2 : ¬ mw ≤ 1000000000 := by omega
          have e2 := HE2.out
          rw [if_pos hfull] at e2
          obtain ⟨rfl, rfl⟩ : [] = aw ∧ 8 = ae := by simpa [eq_comm] using e2
          clear e2
          go_wp2_with fail
          refine (HMO.out _ (rd_cells HRI.out)).mono ?_
          rintro e w23 ⟨rfl, hx⟩
          replace HX := Lib.hid (HX.out.trans hx)
          replace HBB := Lib.hid (HBB.out.ext hx)
          replace HBX := Lib.hid (HBX.out.ext hx)
          replace HY := Lib.hid (HY.out.ext hx)
          clear hx m0 m1 m2 m3 m4 m5 ml n0 n1 n2 n3 nl
          have m0 := HBB.out.cell 0 (v := .int .i64 b.eye) rfl
          have m1 := HBB.out.cell 1 (v := .int .i64 b.bull) rfl
          have m2 := HBB.out.cell 2 (v := .slice a1 b.rings.length a4) rfl
          have m3 := HBB.out.cell 3 (v := .slice a2 b.lines.length a5) rfl
          have m4 := HBB.out.cell 4 (v := .slice a3 b.nums.length a6) rfl
          have m5 := HBB.out.cell 5 (v := .int .i64 b.wire) rfl
          have ml := HBB.out.lt
          have n0 := HBX.out.cell 0 (v := .slice wa worn.length wc) rfl
          have n1 := HBX.out.cell 1 (v := .slice ka wks.length kc) rfl
          have n2 := HBX.out.cell 2 (v := .int .i64 K) rfl
          have n3 := HBX.out.cell 3 (v := .int .i64 lim) rfl
          have nl := HBX.out.lt
          clear HMO HRI HE2
          go_upto_region 31 with fail
          obtain ⟨p, hp⟩ : ∃ p, bestL (plansL [wk] [] worn) = some p := by
            cases h : bestL (plansL [wk] [] worn) with
            | none => exact absurd (bestL_none h) (plansL_ne [wk] [] worn (by have := HNL.out; have := HGF.out.1; omega) (by rw [HGF.out.1]; exact HGF.out.2.1))
            | some p => exact ⟨p, rfl⟩
          obtain ⟨j, -, rfl⟩ := plans_one (bestL_mem hp)
          have hbo := best_of HE0.out HF0.out hp
          rw [HBR.out] at hbo
          obtain ⟨M, hM⟩ : ∃ x, maxL (afterL worn wk j) = x := ⟨_, rfl⟩
          have HPL : Hid (∀ W k, Ext w W → WkC W (some ⟨k, 0, none⟩) [wk] → Calls Tryz.prog 17 #[.slice wa worn.length wc, .slice (some ⟨k, 0, none⟩) 1 1] W fun e w' => ∃ a c, e = .returned (.tuple #[.slice a 1 c, .int .i64 M]) ∧ CellsAt w' .i64 a [(j : Int)] ∧ Ext W w') :=
            Lib.hid (fun W k hX h => by rw [← hM]; exact calls_rplan worn [wk] wa (some ⟨k, 0, none⟩) wc 1 W hp (HW.out.ext hX) h (by have := HNL.out; have := HGF.out.1; omega) HL1.out (by simp) (by rw [HGF.out.1]; exact HGF.out.2.1) (fun y hy => by have := HGF.out.2.2.1 y hy; omega))
          simp only [hM, List.headD_cons] at hbo
          have HBO := Lib.hid hbo
          clear hp hbo hM
          clear m0 m1 m2 m3 m4 m5 ml n0 n1 n2 n3 nl
          have m0 : ∀ y : Lat NoX w23, y.world.cell? ⟨w.heap.size, 0, none⟩ = some (.int .i64 b.eye) := fun y => (HBB.out.ext (Lat.ext0 y)).cell 0 rfl
          have m1 : ∀ y : Lat NoX w23, y.world.cell? ⟨w.heap.size, 1, none⟩ = some (.int .i64 b.bull) := fun y => (HBB.out.ext (Lat.ext0 y)).cell 1 rfl
          have m2 : ∀ y : Lat NoX w23, y.world.cell? ⟨w.heap.size, 2, none⟩ = some (.slice a1 b.rings.length a4) := fun y => (HBB.out.ext (Lat.ext0 y)).cell 2 rfl
          have m3 : ∀ y : Lat NoX w23, y.world.cell? ⟨w.heap.size, 3, none⟩ = some (.slice a2 b.lines.length a5) := fun y => (HBB.out.ext (Lat.ext0 y)).cell 3 rfl
          have m4 : ∀ y : Lat NoX w23, y.world.cell? ⟨w.heap.size, 4, none⟩ = some (.slice a3 b.nums.length a6) := fun y => (HBB.out.ext (Lat.ext0 y)).cell 4 rfl
          have m5 : ∀ y : Lat NoX w23, y.world.cell? ⟨w.heap.size, 5, none⟩ = some (.int .i64 b.wire) := fun y => (HBB.out.ext (Lat.ext0 y)).cell 5 rfl
          have ml := HBB.out.lt
          have n0 : ∀ y : Lat NoX w23, y.world.cell? ⟨(w.heap.size + 1), 0, none⟩ = some (.slice wa worn.length wc) := fun y => (HBX.out.ext (Lat.ext0 y)).cell 0 rfl
          have n1 : ∀ y : Lat NoX w23, y.world.cell? ⟨(w.heap.size + 1), 1, none⟩ = some (.slice ka wks.length kc) := fun y => (HBX.out.ext (Lat.ext0 y)).cell 1 rfl
          have n2 : ∀ y : Lat NoX w23, y.world.cell? ⟨(w.heap.size + 1), 2, none⟩ = some (.int .i64 K) := fun y => (HBX.out.ext (Lat.ext0 y)).cell 2 rfl
          have n3 : ∀ y : Lat NoX w23, y.world.cell? ⟨(w.heap.size + 1), 3, none⟩ = some (.int .i64 lim) := fun y => (HBX.out.ext (Lat.ext0 y)).cell 3 rfl
          have nl := HBX.out.lt
          refine wp_region_ext (by kernel_rfl) [.no, .no, .no, .val (.slice ua wk.length uc), .wk1 wk, .pl2 [(j : Int)] M] (by kernel_rfl) (Nat.le_of_ble_eq_true rfl) ?_
          intro T hT hne u hu
          have u3 : u 3 = .slice ua wk.length uc := hu 3 rfl
          obtain ⟨k31, u4⟩ : WkS (u 4) := hu 4 rfl
          obtain ⟨pa, pc, u5⟩ : PlnS 1 M (u 5) := hu 5 rfl
          clear hu
          refine lx_next 3 (by rfl) (by decide) ?_
          dsimp only [List.take, List.drop]
          repeat (go_big_quiet_step (fail))
          refine wpQuiet_nil ?_
          refine lx_loud (by rfl) (by kernel_rfl) ?_ (fun K hK => ?_)
          · intro L w3 hL hd hcl hC hs
            obtain ⟨y, rfl⟩ := hC
            have hxy := Lat.ext0 y

            go_wp2_with fail
            refine (HWK.out _ (HX.out.trans hxy)).mono ?_
            rintro e w' ⟨rfl, hx⟩
            have HRK := Lib.hid (rik_call (i := 3) y hs rfl hx trivial)
            clear hs
            go_wp2
            exact HRK.out
          rw [u3]
          go_simp
          with_reducible refine hK _ ?_
          clear hK K
          refine lx_loud (by rfl) (by kernel_rfl) ?_ (fun K hK => ?_)
          · intro L w3 hL hd hcl hC hs
            obtain ⟨y, rfl⟩ := hC
            have hxy := Lat.ext0 y

            have HRK := Lib.hid (rik_call (i := 4) y hs (w' := y.world.alloc (.cells #[.slice ua wk.length uc] 24)) (v := .slice (some ⟨y.world.heap.size, 0, none⟩) 1 1) ⟨_, rfl⟩ ((Ext.refl _).alloc _) ⟨_, rfl, WkC.one (HU.out.ext (HX.out.trans hxy)) HUN.out _ rfl⟩)
            clear hs
            go_wp2
            exact HRK.out
          rw [u4]
          go_simp
          with_reducible refine hK _ ?_
          clear hK K
          refine lx_loud (by rfl) (by kernel_rfl) ?_ (fun K hK => ?_)
          · intro L w3 hL hd hcl hC hs
            obtain ⟨y, rfl⟩ := hC
            have hxy := Lat.ext0 y
            have h4 := hs 4 rfl (hd 4 (by kernel_rfl))
            rw [u4] at h4
            go_wp2_with fail
            refine (HPL.out _ _ (HX.out.trans hxy) (wk1_at h4)).mono ?_
            rintro e w' ⟨xa, xc, rfl, hri, hx⟩
            have HRK := Lib.hid (rik_call (i := 5) y hs ⟨xa, xc, rfl⟩ hx ⟨xa, xc, rfl, hri⟩)
            clear hs
            go_wp2
            exact HRK.out
          rw [u5]
          go_simp
          with_reducible refine hK _ ?_
          clear hK K
          refine lx_next 5 (by rfl) (by decide) ?_
          dsimp only [List.take, List.drop]
          repeat (go_big_quiet_step (fail))
          refine wpQuiet_nil ?_
          refine lx_nil ?_
          intro y hs
          have hxy := Lat.ext0 y
          have hr5 := hs 5 rfl rfl
          rw [u5] at hr5
          have HPC : Hid (CellsAt y.world .i64 pa [(j : Int)]) := Lib.hid (pl2_at hr5)
          clear hs hT hne u3 u4 u5 hr5 HPL
          generalize y.world = w25 at *
          replace HX := Lib.hid (HX.out.trans hxy)
          replace HBB := Lib.hid (HBB.out.ext hxy)
          replace HBX := Lib.hid (HBX.out.ext hxy)
          clear hxy m0 m1 m2 m3 m4 m5 ml n0 n1 n2 n3 nl
          have m0 := HBB.out.cell 0 (v := .int .i64 b.eye) rfl
          have m1 := HBB.out.cell 1 (v := .int .i64 b.bull) rfl
          have m2 := HBB.out.cell 2 (v := .slice a1 b.rings.length a4) rfl
          have m3 := HBB.out.cell 3 (v := .slice a2 b.lines.length a5) rfl
          have m4 := HBB.out.cell 4 (v := .slice a3 b.nums.length a6) rfl
          have m5 := HBB.out.cell 5 (v := .int .i64 b.wire) rfl
          have ml := HBB.out.lt
          have n0 := HBX.out.cell 0 (v := .slice wa worn.length wc) rfl
          have n1 := HBX.out.cell 1 (v := .slice ka wks.length kc) rfl
          have n2 := HBX.out.cell 2 (v := .int .i64 K) rfl
          have n3 := HBX.out.cell 3 (v := .int .i64 lim) rfl
          have nl := HBX.out.lt
          by_cases hM : 1000000000 < M
          case pos =>
            have e3 := HBO.out
            rw [if_pos hM] at e3
            obtain ⟨rfl, rfl, rfl⟩ : 0 = bk ∧ 0 = bm ∧ 8 = be := by simpa [eq_comm] using e3
            clear e3
            go_wp2_with fail
            refine (HKN.out _).mono ?_
            rintro e w26 ⟨rfl, hx⟩
            go_wp2_with fail
            go_ret
            exact ⟨rfl, HX.out.trans hx⟩
          case neg =>
            have e3 := HBO.out
            rw [if_neg hM] at e3
            obtain ⟨rfl, rfl, rfl⟩ : (j : Int) = bk ∧ M = bm ∧ 0 = be := by simpa [eq_comm] using e3
            obtain ⟨pb, po, e, c0⟩ := HPC.out 0 (by simp)
            subst e
            have c1 := lt_of_cell c0
            simp only [List.getElem_cons_zero, Nat.add_zero] at c0 c1
            have hjj : ((j : Int) == (j : Int)) = true := by simp
            have hMM : (M == M) = true := by simp
            clear e3
            go_wp2_with fail
            refine (HKN.out _).mono ?_
            rintro e w26 ⟨rfl, hx⟩
            go_wp2_with fail
            go_ret
            exact ⟨rfl, HX.out.trans hx⟩
        case neg =>
          have hfu2 : mw ≤ 1000000000 := by omega
          have e2 := HE2.out
          rw [if_neg hfull] at e2
          obtain ⟨rfl, rfl⟩ : ws = aw ∧ 0 = ae := by simpa [eq_comm] using e2
          clear e2
          have HAL := Lib.hid (fun W ha hb => law_alike ws ws ya ra yc rc W ha hb (by have := HWL.out; omega))
          rw [decide_eq_true rfl] at HAL
          go_wp2_with fail
          refine (HMO.out _ (rd_cells HRI.out)).mono ?_
          rintro e w23 ⟨rfl, hx⟩
          replace HX := Lib.hid (HX.out.trans hx)
          replace HBB := Lib.hid (HBB.out.ext hx)
          replace HBX := Lib.hid (HBX.out.ext hx)
          replace HY := Lib.hid (HY.out.ext hx)
          replace HRI := Lib.hid (HRI.out.ext hx)
          clear hx m0 m1 m2 m3 m4 m5 ml n0 n1 n2 n3 nl
          have m0 := HBB.out.cell 0 (v := .int .i64 b.eye) rfl
          have m1 := HBB.out.cell 1 (v := .int .i64 b.bull) rfl
          have m2 := HBB.out.cell 2 (v := .slice a1 b.rings.length a4) rfl
          have m3 := HBB.out.cell 3 (v := .slice a2 b.lines.length a5) rfl
          have m4 := HBB.out.cell 4 (v := .slice a3 b.nums.length a6) rfl
          have m5 := HBB.out.cell 5 (v := .int .i64 b.wire) rfl
          have ml := HBB.out.lt
          have n0 := HBX.out.cell 0 (v := .slice wa worn.length wc) rfl
          have n1 := HBX.out.cell 1 (v := .slice ka wks.length kc) rfl
          have n2 := HBX.out.cell 2 (v := .int .i64 K) rfl
          have n3 := HBX.out.cell 3 (v := .int .i64 lim) rfl
          have nl := HBX.out.lt
          go_wp2_with fail
          refine (HAL.out _ (rd_cells HY.out) (rd_cells HRI.out)).mono ?_
          rintro e w24 ⟨rfl, hx⟩
          replace HX := Lib.hid (HX.out.trans hx)
          replace HBB := Lib.hid (HBB.out.ext hx)
          replace HBX := Lib.hid (HBX.out.ext hx)
          clear hx m0 m1 m2 m3 m4 m5 ml n0 n1 n2 n3 nl
          have m0 := HBB.out.cell 0 (v := .int .i64 b.eye) rfl
          have m1 := HBB.out.cell 1 (v := .int .i64 b.bull) rfl
          have m2 := HBB.out.cell 2 (v := .slice a1 b.rings.length a4) rfl
          have m3 := HBB.out.cell 3 (v := .slice a2 b.lines.length a5) rfl
          have m4 := HBB.out.cell 4 (v := .slice a3 b.nums.length a6) rfl
          have m5 := HBB.out.cell 5 (v := .int .i64 b.wire) rfl
          have ml := HBB.out.lt
          have n0 := HBX.out.cell 0 (v := .slice wa worn.length wc) rfl
          have n1 := HBX.out.cell 1 (v := .slice ka wks.length kc) rfl
          have n2 := HBX.out.cell 2 (v := .int .i64 K) rfl
          have n3 := HBX.out.cell 3 (v := .int .i64 lim) rfl
          have nl := HBX.out.lt
          clear HMO HRI HE2 HAL
          go_upto_region 31 with fail
          obtain ⟨p, hp⟩ : ∃ p, bestL (plansL [wk] [] worn) = some p := by
            cases h : bestL (plansL [wk] [] worn) with
            | none => exact absurd (bestL_none h) (plansL_ne [wk] [] worn (by have := HNL.out; have := HGF.out.1; omega) (by rw [HGF.out.1]; exact HGF.out.2.1))
            | some p => exact ⟨p, rfl⟩
          obtain ⟨j, -, rfl⟩ := plans_one (bestL_mem hp)
          have hbo := best_of HE0.out HF0.out hp
          rw [HBR.out] at hbo
          obtain ⟨M, hM⟩ : ∃ x, maxL (afterL worn wk j) = x := ⟨_, rfl⟩
          have HPL : Hid (∀ W k, Ext w W → WkC W (some ⟨k, 0, none⟩) [wk] → Calls Tryz.prog 17 #[.slice wa worn.length wc, .slice (some ⟨k, 0, none⟩) 1 1] W fun e w' => ∃ a c, e = .returned (.tuple #[.slice a 1 c, .int .i64 M]) ∧ CellsAt w' .i64 a [(j : Int)] ∧ Ext W w') :=
            Lib.hid (fun W k hX h => by rw [← hM]; exact calls_rplan worn [wk] wa (some ⟨k, 0, none⟩) wc 1 W hp (HW.out.ext hX) h (by have := HNL.out; have := HGF.out.1; omega) HL1.out (by simp) (by rw [HGF.out.1]; exact HGF.out.2.1) (fun y hy => by have := HGF.out.2.2.1 y hy; omega))
          simp only [hM, List.headD_cons] at hbo
          have HBO := Lib.hid hbo
          clear hp hbo hM
          clear m0 m1 m2 m3 m4 m5 ml n0 n1 n2 n3 nl
          have m0 : ∀ y : Lat NoX w24, y.world.cell? ⟨w.heap.size, 0, none⟩ = some (.int .i64 b.eye) := fun y => (HBB.out.ext (Lat.ext0 y)).cell 0 rfl
          have m1 : ∀ y : Lat NoX w24, y.world.cell? ⟨w.heap.size, 1, none⟩ = some (.int .i64 b.bull) := fun y => (HBB.out.ext (Lat.ext0 y)).cell 1 rfl
          have m2 : ∀ y : Lat NoX w24, y.world.cell? ⟨w.heap.size, 2, none⟩ = some (.slice a1 b.rings.length a4) := fun y => (HBB.out.ext (Lat.ext0 y)).cell 2 rfl
          have m3 : ∀ y : Lat NoX w24, y.world.cell? ⟨w.heap.size, 3, none⟩ = some (.slice a2 b.lines.length a5) := fun y => (HBB.out.ext (Lat.ext0 y)).cell 3 rfl
          have m4 : ∀ y : Lat NoX w24, y.world.cell? ⟨w.heap.size, 4, none⟩ = some (.slice a3 b.nums.length a6) := fun y => (HBB.out.ext (Lat.ext0 y)).cell 4 rfl
          have m5 : ∀ y : Lat NoX w24, y.world.cell? ⟨w.heap.size, 5, none⟩ = some (.int .i64 b.wire) := fun y => (HBB.out.ext (Lat.ext0 y)).cell 5 rfl
          have ml := HBB.out.lt
          have n0 : ∀ y : Lat NoX w24, y.world.cell? ⟨(w.heap.size + 1), 0, none⟩ = some (.slice wa worn.length wc) := fun y => (HBX.out.ext (Lat.ext0 y)).cell 0 rfl
          have n1 : ∀ y : Lat NoX w24, y.world.cell? ⟨(w.heap.size + 1), 1, none⟩ = some (.slice ka wks.length kc) := fun y => (HBX.out.ext (Lat.ext0 y)).cell 1 rfl
          have n2 : ∀ y : Lat NoX w24, y.world.cell? ⟨(w.heap.size + 1), 2, none⟩ = some (.int .i64 K) := fun y => (HBX.out.ext (Lat.ext0 y)).cell 2 rfl
          have n3 : ∀ y : Lat NoX w24, y.world.cell? ⟨(w.heap.size + 1), 3, none⟩ = some (.int .i64 lim) := fun y => (HBX.out.ext (Lat.ext0 y)).cell 3 rfl
          have nl := HBX.out.lt
          refine wp_region_ext (by kernel_rfl) [.no, .no, .no, .val (.slice ua wk.length uc), .wk1 wk, .pl2 [(j : Int)] M] (by kernel_rfl) (Nat.le_of_ble_eq_true rfl) ?_
          intro T hT hne u hu
          have u3 : u 3 = .slice ua wk.length uc := hu 3 rfl
          obtain ⟨k31, u4⟩ : WkS (u 4) := hu 4 rfl
          obtain ⟨pa, pc, u5⟩ : PlnS 1 M (u 5) := hu 5 rfl
          clear hu
          refine lx_next 3 (by rfl) (by decide) ?_
          dsimp only [List.take, List.drop]
          repeat (go_big_quiet_step (fail))
          refine wpQuiet_nil ?_
          refine lx_loud (by rfl) (by kernel_rfl) ?_ (fun K hK => ?_)
          · intro L w3 hL hd hcl hC hs
            obtain ⟨y, rfl⟩ := hC
            have hxy := Lat.ext0 y

            go_wp2_with fail
            refine (HWK.out _ (HX.out.trans hxy)).mono ?_
            rintro e w' ⟨rfl, hx⟩
            have HRK := Lib.hid (rik_call (i := 3) y hs rfl hx trivial)
            clear hs
            go_wp2
            exact HRK.out
          rw [u3]
          go_simp
          with_reducible refine hK _ ?_
          clear hK K
          refine lx_loud (by rfl) (by kernel_rfl) ?_ (fun K hK => ?_)
          · intro L w3 hL hd hcl hC hs
            obtain ⟨y, rfl⟩ := hC
            have hxy := Lat.ext0 y

            have HRK := Lib.hid (rik_call (i := 4) y hs (w' := y.world.alloc (.cells #[.slice ua wk.length uc] 24)) (v := .slice (some ⟨y.world.heap.size, 0, none⟩) 1 1) ⟨_, rfl⟩ ((Ext.refl _).alloc _) ⟨_, rfl, WkC.one (HU.out.ext (HX.out.trans hxy)) HUN.out _ rfl⟩)
            clear hs
            go_wp2
            exact HRK.out
          rw [u4]
          go_simp
          with_reducible refine hK _ ?_
          clear hK K
          refine lx_loud (by rfl) (by kernel_rfl) ?_ (fun K hK => ?_)
          · intro L w3 hL hd hcl hC hs
            obtain ⟨y, rfl⟩ := hC
            have hxy := Lat.ext0 y
            have h4 := hs 4 rfl (hd 4 (by kernel_rfl))
            rw [u4] at h4
            go_wp2_with fail
            refine (HPL.out _ _ (HX.out.trans hxy) (wk1_at h4)).mono ?_
            rintro e w' ⟨xa, xc, rfl, hri, hx⟩
            have HRK := Lib.hid (rik_call (i := 5) y hs ⟨xa, xc, rfl⟩ hx ⟨xa, xc, rfl, hri⟩)
            clear hs
            go_wp2
            exact HRK.out
          rw [u5]
          go_simp
          with_reducible refine hK _ ?_
          clear hK K
          refine lx_next 5 (by rfl) (by decide) ?_
          dsimp only [List.take, List.drop]
          repeat (go_big_quiet_step (fail))
          refine wpQuiet_nil ?_
          refine lx_nil ?_
          intro y hs
          have hxy := Lat.ext0 y
          have hr5 := hs 5 rfl rfl
          rw [u5] at hr5
          have HPC : Hid (CellsAt y.world .i64 pa [(j : Int)]) := Lib.hid (pl2_at hr5)
          clear hs hT hne u3 u4 u5 hr5 HPL
          generalize y.world = w25 at *
          replace HX := Lib.hid (HX.out.trans hxy)
          replace HBB := Lib.hid (HBB.out.ext hxy)
          replace HBX := Lib.hid (HBX.out.ext hxy)
          clear hxy m0 m1 m2 m3 m4 m5 ml n0 n1 n2 n3 nl
          have m0 := HBB.out.cell 0 (v := .int .i64 b.eye) rfl
          have m1 := HBB.out.cell 1 (v := .int .i64 b.bull) rfl
          have m2 := HBB.out.cell 2 (v := .slice a1 b.rings.length a4) rfl
          have m3 := HBB.out.cell 3 (v := .slice a2 b.lines.length a5) rfl
          have m4 := HBB.out.cell 4 (v := .slice a3 b.nums.length a6) rfl
          have m5 := HBB.out.cell 5 (v := .int .i64 b.wire) rfl
          have ml := HBB.out.lt
          have n0 := HBX.out.cell 0 (v := .slice wa worn.length wc) rfl
          have n1 := HBX.out.cell 1 (v := .slice ka wks.length kc) rfl
          have n2 := HBX.out.cell 2 (v := .int .i64 K) rfl
          have n3 := HBX.out.cell 3 (v := .int .i64 lim) rfl
          have nl := HBX.out.lt
          by_cases hM : 1000000000 < M
          case pos =>
            have e3 := HBO.out
            rw [if_pos hM] at e3
            obtain ⟨rfl, rfl, rfl⟩ : 0 = bk ∧ 0 = bm ∧ 8 = be := by simpa [eq_comm] using e3
            clear e3
            go_wp2_with fail
            refine (HKN.out _).mono ?_
            rintro e w26 ⟨rfl, hx⟩
            go_wp2_with fail
            go_ret
            exact ⟨rfl, HX.out.trans hx⟩
          case neg =>
            have e3 := HBO.out
            rw [if_neg hM] at e3
            obtain ⟨rfl, rfl, rfl⟩ : (j : Int) = bk ∧ M = bm ∧ 0 = be := by simpa [eq_comm] using e3
            obtain ⟨pb, po, e, c0⟩ := HPC.out 0 (by simp)
            subst e
            have c1 := lt_of_cell c0
            simp only [List.getElem_cons_zero, Nat.add_zero] at c0 c1
            have hjj : ((j : Int) == (j : Int)) = true := by simp
            have hMM : (M == M) = true := by simp
            clear e3
            go_wp2_with fail
            refine (HKN.out _).mono ?_
            rintro e w26 ⟨rfl, hx⟩
            go_wp2_with fail
            go_ret
            exact ⟨rfl, HX.out.trans hx⟩
end Go.Proofs.YtlkbbcfbnbnagaaGreat
