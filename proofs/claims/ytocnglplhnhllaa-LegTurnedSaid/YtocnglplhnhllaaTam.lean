/-
  Chapter 3: Hand.tale.
-/
import Derived.Test.YtocnglplhnhllaaTak
import Derived.Test.YtocnglplhnhllaaTan
import Derived.Test.YtocnglplhnhllaaTao
namespace Go.Proofs.Ytocnglplhnhllaa
theorem tal_next {r : Rul} {l : List LV} {g : Gm} {E A : List Int} (hr : r.ok = true) (h : TalI r l g E A) (ho : g.over = false) {p : Nat} (hp : (p : Int) = (r.first + (l.length : Int)) % (r.counts.length : Int)) {bs : List Int} {y : Thr}
    (hx : g.thr r p bs = (y, -1, 0)) (hb : (1 ≤ bs.length ∧ bs.length ≤ 3) ∧ ∀ b ∈ bs, validB b = true) (hy : y.darts = (bs.length : Int)) :
    ∃ g' : Gm, TalJ r (l ++ [⟨p, bs⟩]) g' (wonA y.won E p) (wonA y.won A y.darts) ∧ g'.left = g.left.set p y.left ∧ g'.darts = g.darts.set p (g.darts.getD p 0 + bs.length) ∧ g'.inn = g.inn.set p y.inn ∧ g'.round = rndN g.round l.length r.counts.length
      ∧ g'.over = ovrN r.equal (wonA y.won E p).length l.length r.counts.length (rndN g.round l.length r.counts.length) r.rounds := by
  have hl := Rul.ok_length hr
  obtain ⟨h1, h2⟩ := h.step hr ho hp hx hb
  obtain ⟨f1, f2, f3, f4, f5, f6⟩ := tal_fin r (g.put r p y)
  have hms := mod_succ l.length r.counts.length hl.1
  have hml := Nat.mod_lt l.length (by omega : r.counts.length > 0)
  have hrn : ((g.put r p y).fin r).round = rndN g.round l.length r.counts.length := by
    rw [f4]
    simp only [Gm.put, rndN, h.done]
    by_cases hm : l.length % r.counts.length = r.counts.length - 1
    · rw [if_pos hm, if_pos (by omega)]
    · rw [if_neg hm, if_neg (by omega)]
  refine ⟨(g.put r p y).fin r, ⟨fun h0 => absurd h0 (by omega), fun _ => h1, h1.ok.left, h1.ok.darts, h1.ok.inn⟩, f1, ?_, f3, hrn, ?_⟩
  · rw [f2]
    simp only [Gm.put, hy]
  · rw [h2]
    show talO r (wonA y.won E p).length l.length = _
    unfold talO ovrN
    by_cases hm : l.length % r.counts.length = r.counts.length - 1
    · have : rndN g.round l.length r.counts.length = (((l.length + 1) / r.counts.length : Nat) : Int) := by
        unfold rndN
        rw [if_pos hm, h.round, (hms.1 hm).2]
        rfl
      rw [this]
    · have hm' : (l.length % r.counts.length == r.counts.length - 1) = false := by simpa using hm
      rw [hm']
      simp
end Go.Proofs.Ytocnglplhnhllaa
namespace Go.Proofs.Ytocnglplhnhllaa
open Go.RowKit Go.BigFrame
attribute [local go_sem] Later.cell Later.frozen Lat.cell Lat.frozen
set_option maxRecDepth 100000 in
set_option maxHeartbeats 16000000 in
theorem hand_tale (H : Hnd) (sa ba : Option Addr) (sc bc : Nat) (hf : H.fits) (w : World) (hS : CellsAt w .u16 sa H.starts) (hB : CellsAt w .u8 ba H.beds) :
    Calls Try.prog 34 #[.agg (H.cells sa ba sc bc)] w fun e w' => ∃ l us g E A vv lv tv iv ev av, e = .returned (.agg #[vv, lv, tv, iv, ev, av, .int .i64 g.round, .bool g.over]) ∧ TalP H w.heap.size l us g E A vv lv tv iv ev av w' ∧ Ext w w' := by
  have HS := Lib.hid hS
  have HB := Lib.hid hB
  have HF := Lib.hid hf
  clear hS hB hf
  obtain ⟨r, hr⟩ : ∃ r, H.rul = r := ⟨_, rfl⟩
  obtain ⟨cs, hcs⟩ : ∃ cs, r.counts = cs := ⟨_, rfl⟩
  obtain ⟨fi, hfi⟩ : ∃ fi, r.first = fi := ⟨_, rfl⟩
  obtain ⟨ro, hro⟩ : ∃ ro, r.rounds = ro := ⟨_, rfl⟩
  obtain ⟨eq, heq⟩ : ∃ eq, r.equal = eq := ⟨_, rfl⟩
  have hn5 : cs.length ≤ 5 := by rw [← hcs, ← hr]; show H.counts.length ≤ 5; rw [H.counts_length]; omega
  have hok : 0 < cs.length → r.ok = true := fun h => by rw [← hr]; exact Hnd.rul_ok HF.out (by rw [← hcs, ← hr] at h; exact h)
  have HOK := Lib.hid hok
  have HR := Lib.hid hr
  have HCS := Lib.hid hcs
  have HFI := Lib.hid hfi
  have HRO := Lib.hid hro
  have HEQ := Lib.hid heq
  have hru := fun W (hx : Ext w W) => hand_rules H sa ba sc bc HF.out W (HS.out.ext hx)
  rw [hr] at hru
  have HRu := Lib.hid hru
  have HBd := Lib.hid (fun (i : Nat) (hi : i ≤ 1000000) W (hx : Ext w W) => hand_bed H sa ba sc bc i HF.out hi W (HB.out.ext hx))
  clear hok hr hcs hfi hro heq hru
  unfold Hnd.cells
  go_enter Try.func34, Try.ntmps34
  go_wp2_with fail
  refine (HRu.out _ (by exact ((Ext.refl w).alloc _).alloc _)).mono ?_
  rintro e w1 ⟨ca, cc, rfl, hO1, hC1, hx1⟩
  rw [HCS.out, HFI.out, HRO.out, HEQ.out]
  rw [HCS.out] at hC1
  have hxa := ((Ext.refl w).alloc (.cells #[.slice sa H.starts.length sc, .int .u8 H.gates, .bool H.equal, .int .u8 H.rounds, .int .u8 H.first, .slice ba H.beds.length bc] 78)).alloc (.cells #[.slice none 0 0, .slice none 0 0, .slice none 0 0, .slice none 0 0, .slice none 0 0, .slice none 0 0, .int .i64 0, .bool false] 81)
  have hb1 := ((Blk.new w #[.slice sa H.starts.length sc, .int .u8 H.gates, .bool H.equal, .int .u8 H.rounds, .int .u8 H.first, .slice ba H.beds.length bc] 78).alloc (.cells #[.slice none 0 0, .slice none 0 0, .slice none 0 0, .slice none 0 0, .slice none 0 0, .slice none 0 0, .int .i64 0, .bool false] 81)).ext hx1
  have hb2 : Blk w1 (w.heap.size + 1) #[.slice none 0 0, .slice none 0 0, .slice none 0 0, .slice none 0 0, .slice none 0 0, .slice none 0 0, .int .i64 0, .bool false] := (Blk.at _ (by simp)).ext hx1
  have hE1 := hxa.trans hx1
  have hb1l := hb1.lt
  have hb2l := hb2.lt
  have HB1 := Lib.hid hb1
  have HB2 := Lib.hid hb2
  have HE1 := Lib.hid hE1
  have HC1 := Lib.hid hC1
  clear hO1 hC1 hx1 hxa hb1 hb2 hE1
  go_upto_region 2 with fail
  generalize hw2 : World.alloc w1 _ = w2
  have hx2 : Ext w1 w2 := by rw [← hw2]; exact (Ext.refl w1).alloc _
  have hb3 : Blk w2 w1.heap.size #[.slice ca cs.length cc, .int .i64 fi, .int .i64 ro, .bool eq] := by rw [← hw2]; exact Blk.new w1 _ _
  have hs2 : w2.heap.size = w1.heap.size + 1 := by rw [← hw2]; simp
  have HB3 := Lib.hid hb3
  have HE2 := Lib.hid (HE1.out.trans hx2)
  have HB1' := Lib.hid (HB1.out.ext hx2)
  have HB2' := Lib.hid (HB2.out.ext hx2)
  have HC2 := Lib.hid (HC1.out.ext hx2)
  clear hw2 hx2 HB1 HB2 HE1 HC1
  generalize hK : w1.heap.size = K at *
  have hKw : w.heap.size + 1 < K := by omega
  have c0 := hb3.cell 0 (v := .slice ca cs.length cc) rfl
  have hKl : K < w2.heap.size := by omega
  clear hK hb3 hb1l hb2l
  obtain ⟨B, hBe⟩ : ∃ B, B = w2.heap.size := ⟨_, rfl⟩
  have hlo : B ≤ w2.heap.size := by omega
  have hKB : K < B := by omega
  have hnK : ¬ (B ≤ K) := by omega
  have HBE := Lib.hid hBe
  clear hBe hs2
  refine wp_region_sep (by kernel_rfl) [.no, .no, .no, .no, .ptr, .any] B
    (fun L u => [bif L 4 then Res.blk (ptrOf (u 4)) #[.slice none 0 0, .slice none 0 0, .slice none 0 0, .slice none 0 0, .slice none 0 0, .slice none 0 0, .int .i64 0, .bool false] else Res.none])
    (by kernel_rfl) (Nat.le_of_ble_eq_true rfl) (fun L L' u hh => by simp only [hh 4 rfl]) (fun _ => Frm.nones B 1 w2) ?_
  intro T hT hne u hu
  obtain ⟨k4, u4⟩ : ∃ k, u 4 = .pointer (some ⟨k, 0, none⟩) := hu 4 rfl
  clear hu
  refine lx_next 4 (by rfl) (by decide) ?_
  dsimp only [List.take, List.drop]
  repeat (go_big_quiet_step (fail))
  refine wpQuiet_nil ?_
  refine lx_loud (by rfl) (by kernel_rfl) ?_ (fun K hK => ?_)
  · intro L w3 hL hd hcl hC hs
    obtain ⟨x, rfl⟩ := hC
    have hzs := x.size
    simp only [hL, cond_false] at hs
    go_wp2
    exact aft_set x hlo ⟨_, rfl⟩ hs 0 (r' := Res.blk x.world.heap.size #[.slice none 0 0, .slice none 0 0, .slice none 0 0, .slice none 0 0, .slice none 0 0, .slice none 0 0, .int .i64 0, .bool false]) rfl (((Ext.refl x.world).alloc _).chg _) (Blk.new _ _ _) (fun k hk => .inr (by rw [show k = x.world.heap.size from hk]; simp)) (by first | (simp [upd, updv, hL]; done) | (simp [upd, updv, hL]; rfl))
  rw [u4]
  go_simp
  with_reducible refine hK _ ?_
  clear hK K
  refine lx_loud (by rfl) (by kernel_rfl) ?_ (fun K hK => ?_)
  · intro L w3 hL hd hcl hC hs
    obtain ⟨x, rfl⟩ := hC
    have hzs := x.size
    have h4 := hd 4 (by kernel_rfl)
    simp only [h4, cond_true] at hs
    rw [u4] at hs
    have hb : Blk x.world k4 #[.slice none 0 0, .slice none 0 0, .slice none 0 0, .slice none 0 0, .slice none 0 0, .slice none 0 0, .int .i64 0, .bool false] := hs.get 0 rfl
    have hlt := hb.lt
    have q0 := hb.cell 0 (v := .slice none 0 0) rfl
    have f0 := hb.frozen 0
    have q1 := hb.cell 1 (v := .slice none 0 0) rfl
    have f1 := hb.frozen 1
    have q2 := hb.cell 2 (v := .slice none 0 0) rfl
    have f2 := hb.frozen 2
    have q3 := hb.cell 3 (v := .slice none 0 0) rfl
    have f3 := hb.frozen 3
    have q4 := hb.cell 4 (v := .slice none 0 0) rfl
    have f4 := hb.frozen 4
    have q5 := hb.cell 5 (v := .slice none 0 0) rfl
    have f5 := hb.frozen 5
    have q6 := hb.cell 6 (v := .int .i64 0) rfl
    have f6 := hb.frozen 6
    have q7 := hb.cell 7 (v := .bool false) rfl
    have f7 := hb.frozen 7
    go_wp2
    exact aft_set x hlo trivial hs 0 rfl (eight_chg (fun k => k = k4) _ rfl _ _ _ _ _ _ _ _) (r' := Res.blk k4 #[.slice none 0 0, .slice none 0 0, .slice none 0 0, .slice none 0 0, .slice none 0 0, .slice none 0 0, .int .i64 0, .bool false]) (eight_set hb _ _ _ _ _ _ _ _) (fun _ hk => .inl hk) (by first | (simp [upd, updv, h4, u4]; done) | (simp [upd, updv, h4, u4]; rfl))
  go_simp
  with_reducible refine hK _ ?_
  clear hK K
  refine lx_next 2 (by rfl) (by decide) ?_
  dsimp only [List.take, List.drop]
  repeat (go_big_quiet_step (fail))
  refine wpQuiet_nil ?_
  refine lx_nil ?_
  intro x hs
  rw [u4] at hs
  have hs0 : Frm B [Res.blk k4 #[.slice none 0 0, .slice none 0 0, .slice none 0 0, .slice none 0 0, .slice none 0 0, .slice none 0 0, .int .i64 0, .bool false]] x.world := hs
  have hX : Ext w2 x.world := Chg.to_ext (Ext.refl w2) x.chg (by rintro i ⟨_, h⟩; exact HBE.out ▸ h)
  have hs1 := ((hs0.more (r := Res.own B 3 1 (.slice none 0 0) 0 []) (World.ownsRow_nil _ _ _ _) (fun k h => by cases h)).more (r := Res.own B 3 1 (.slice none 0 0) 0 []) (World.ownsRow_nil _ _ _ _) (fun k h => by cases h)).more (r := Res.own B 4 1 (.slice none 0 0) 0 []) (World.ownsRow_nil _ _ _ _) (fun k h => by cases h)
  have hk4 := (hs0.lt 0 rfl k4 rfl).1
  have HS1 := Lib.hid hs1
  have HX := Lib.hid hX
  clear hs hs0 hs1 hX hT hne u4
  generalize x.world = w3 at *
  clear x c0 hlo hnK
  go_wp2
  go_loopw [7] (fun i wr => ∃ (k : Nat) (lv tv iv : Value), k ≤ cs.length ∧ i = .int .i64 k ∧ Frm B [Res.blk k4 #[.slice none 0 0, lv, tv, iv, .slice none 0 0, .slice none 0 0, .int .i64 0, .bool false], Res.own B 3 1 lv k (((cs.take k).map (·.start)).map (Value.int .i64)), Res.own B 3 1 tv k ((List.replicate k 0).map (Value.int .i64)), Res.own B 4 1 iv k (((cs.take k).map (fun c => c.gin == 0)).map Value.bool)] wr ∧ Ext w2 wr) (fun i _ => cs.length - (intOf i).toNat)
  case atStart => exact ⟨0, _, _, _, Nat.zero_le _, rfl, HS1.out, HX.out⟩
  case round =>
    obtain ⟨k, lv, tv, iv, hk, rfl, hF, hx⟩ := hrel
    obtain ⟨la, lc, rfl⟩ := own_shape (hF.get 1 rfl)
    obtain ⟨ta, tc, rfl⟩ := own_shape (hF.get 2 rfl)
    obtain ⟨ia, ic, rfl⟩ := own_shape (hF.get 3 rfl)
    have HF1 := Lib.hid hF
    have hsz := hx.size
    have hbe := Nat.le_of_eq HBE.out
    have hbe2 := Nat.le_of_eq HBE.out.symm
    clear hF
    by_cases hlt : k < cs.length
    · obtain ⟨b, o, hca, p0, p1, p2⟩ := HC2.out k hlt
      subst hca
      have hbl := lt_of_cell p0
      simp only at hbl
      replace p0 := hx.cell p0
      replace p1 := hx.cell p1
      have hbl2 : b < wr.heap.size := by omega
      have hnb : ¬ (B ≤ b) := by omega
      have hKl2 : K < wr.heap.size := by omega
      have hnK : ¬ (B ≤ K) := by omega
      have hlo : B ≤ wr.heap.size := by omega
      have c0 := (HB3.out.ext hx).cell 0 (v := .slice (some ⟨b, o, none⟩) cs.length cc) rfl
      have hx1 : (cs.take (k + 1)).map (·.start) = (cs.take k).map (·.start) ++ [cs[k].start] := by rw [List.take_succ_eq_append_getElem hlt, List.map_append]; rfl
      have hy1 : (cs.take (k + 1)).map (fun c => c.gin == 0) = (cs.take k).map (fun c => c.gin == 0) ++ [cs[k].gin == 0] := by rw [List.take_succ_eq_append_getElem hlt, List.map_append]; rfl
      have HX1 := Lib.hid hx1
      have HY1 := Lib.hid hy1
      clear hx1 hy1 p2 hbe hbe2
      generalize (cs.take k).map (·.start) = xs at *
      generalize (cs.take k).map (fun c => c.gin == 0) = ys at *
      generalize cs[k].start = xv at *
      generalize cs[k].gin = yv at *
      go_wp2
      refine wp_region_sep (by kernel_rfl) [.no, .val (.slice la k lc), .no, .no, .no, .no, .no, .no, .box 1, .app (k + 1), .no, .val (.slice ta k tc), .box 1, .app (k + 1), .no, .val (.slice ia k ic), .no, .no, .no, .no, .no, .no, .no, .box 1, .app (k + 1), .no, .any, .no, .any, .no, .any] B
        (fun L u => [Res.blk k4 #[.slice none 0 0, (bif L 26 then u 9 else .slice la k lc), (bif L 28 then u 13 else .slice ta k tc), (bif L 30 then u 24 else .slice ia k ic), .slice none 0 0, .slice none 0 0, .int .i64 0, .bool false],
          (bif L 9 then Res.own B 3 1 (u 9) (k + 1) (xs.map (Value.int .i64) ++ [.int .i64 xv]) else Res.own B 3 1 (.slice la k lc) k (xs.map (Value.int .i64))),
          (bif L 13 then Res.own B 3 1 (u 13) (k + 1) ((List.replicate k 0).map (Value.int .i64) ++ [.int .i64 0]) else Res.own B 3 1 (.slice ta k tc) k ((List.replicate k 0).map (Value.int .i64))),
          (bif L 24 then Res.own B 4 1 (u 24) (k + 1) (ys.map Value.bool ++ [.bool (yv == 0)]) else Res.own B 4 1 (.slice ia k ic) k (ys.map Value.bool)),
          (bif L 8 then Res.own B 3 1 (u 8) 1 [.int .i64 xv] else Res.none), (bif L 12 then Res.own B 3 1 (u 12) 1 [.int .i64 0] else Res.none), (bif L 23 then Res.own B 4 1 (u 23) 1 [.bool (yv == 0)] else Res.none)])
        (by kernel_rfl) (Nat.le_of_ble_eq_true rfl) (fun L L' u hh => by simp only [hh 26 rfl, hh 28 rfl, hh 30 rfl, hh 9 rfl, hh 13 rfl, hh 24 rfl, hh 8 rfl, hh 12 rfl, hh 23 rfl]) (fun _ => ((HF1.out.more (r := Res.none) trivial fun _ h => h).more (r := Res.none) trivial fun _ h => h).more (r := Res.none) trivial fun _ h => h) ?_
      intro T hT hne u hu
      have u1 : u 1 = .slice la k lc := hu 1 rfl
      have u11 : u 11 = .slice ta k tc := hu 11 rfl
      have u15 : u 15 = .slice ia k ic := hu 15 rfl
      obtain ⟨k8, u8⟩ : ∃ k, u 8 = .slice (some ⟨k, 0, none⟩) 1 1 := hu 8 rfl
      obtain ⟨k12, u12⟩ : ∃ k, u 12 = .slice (some ⟨k, 0, none⟩) 1 1 := hu 12 rfl
      obtain ⟨k23, u23⟩ : ∃ k, u 23 = .slice (some ⟨k, 0, none⟩) 1 1 := hu 23 rfl
      obtain ⟨a9, c9, u9⟩ : ∃ a c, u 9 = .slice a (k + 1) c := hu 9 rfl
      obtain ⟨a13, c13, u13⟩ : ∃ a c, u 13 = .slice a (k + 1) c := hu 13 rfl
      obtain ⟨a24, c24, u24⟩ : ∃ a c, u 24 = .slice a (k + 1) c := hu 24 rfl
      clear hu
      refine lx_next 1 (by rfl) (by decide) ?_
      dsimp only [List.take, List.drop]
      repeat (go_big_quiet_step (fail))
      refine wpQuiet_nil ?_
      refine lx_loud (by rfl) (by kernel_rfl) ?_ (fun K hK => ?_)
      · intro L w3 hL hd hcl hC hs
        obtain ⟨x, rfl⟩ := hC
        have hzs := x.size
        have h26 := hcl.off hL 40 26 (by kernel_rfl)
        simp only [h26, cond_false] at hs
        have hcc := (hs.get 0 rfl).cell 1 (v := .slice la k lc) rfl
        have hlt := (hs.get 0 rfl).lt
        go_wp2
        exact aft_same x rfl hs (by first | (simp [upd, updv, h26]; done) | (simp [upd, updv, h26, hL]; rfl))
      rw [u1]
      go_simp
      with_reducible refine hK _ ?_
      clear hK K
      refine lx_next 6 (by rfl) (by decide) ?_
      dsimp only [List.take, List.drop]
      repeat (go_big_quiet_step (fail))
      refine wpQuiet_nil ?_
      refine lx_loud (by rfl) (by kernel_rfl) ?_ (fun K hK => ?_)
      · intro L w3 hL hd hcl hC hs
        obtain ⟨x, rfl⟩ := hC
        have hzs := x.size
        have h9 := hcl.off hL 40 9 (by kernel_rfl)
        simp only [hL, h9, cond_false] at hs
        go_wp2
        exact aft_set x hlo ⟨_, rfl⟩ hs 4 (r' := Res.own B 3 1 (.slice (some ⟨x.world.heap.size, 0, none⟩) 1 1) 1 [.int .i64 xv]) rfl (((Ext.refl x.world).alloc _).chg _) (own_box (by omega) (by decide) rfl) (fun k hk => .inr (by rw [← own_blk hk]; simp)) (by first | (simp [upd, updv, h9, hL]; done) | (simp [upd, updv, h9, hL]; rfl))
      rw [u8]
      go_simp
      with_reducible refine hK _ ?_
      clear hK K
      refine lx_loud (by rfl) (by kernel_rfl) ?_ (fun K hK => ?_)
      · intro L w3 hL hd hcl hC hs
        obtain ⟨x, rfl⟩ := hC
        have hzs := x.size
        have h26 := hcl.off hL 40 26 (by kernel_rfl)
        have h8 := hd 8 (by kernel_rfl)
        simp only [hL, h26, h8, cond_true, cond_false] at hs
        rw [u8] at hs
        refine wp_append_sep rfl _ _ 48 3 _ 1 _ rfl info_int (by kernel_rfl) rfl (by decide) B _ _ _ rfl (hs.get 1 rfl) B k8 1 1 _ rfl (hs.get 4 rfl) (fun u hu => by rw [List.mem_singleton.1 hu]; rfl) (by omega) (by decide) (by omega) ?_
        intro v' w4 ho4 hC4 hn4
        obtain ⟨av, ac, rfl⟩ := own_shape ho4
        go_wp2
        exact aft_set x hlo ⟨_, _, rfl⟩ hs 1 rfl hC4 (r' := Res.own B 3 1 (.slice av _ ac) _ _) ho4 hn4 (by first | (simp [upd, updv, h26, h8, hL, u8]; done) | (simp [upd, updv, h26, h8, hL, u8]; rfl))
      rw [u9]
      go_simp
      with_reducible refine hK _ ?_
      clear hK K
      refine lx_next 1 (by rfl) (by decide) ?_
      dsimp only [List.take, List.drop]
      repeat (go_big_quiet_step (fail))
      refine wpQuiet_nil ?_
      refine lx_loud (by rfl) (by kernel_rfl) ?_ (fun K hK => ?_)
      · intro L w3 hL hd hcl hC hs
        obtain ⟨x, rfl⟩ := hC
        have hzs := x.size
        have h28 := hcl.off hL 40 28 (by kernel_rfl)
        simp only [h28, cond_false] at hs
        have hcc := (hs.get 0 rfl).cell 2 (v := .slice ta k tc) rfl
        have hlt := (hs.get 0 rfl).lt
        go_wp2
        exact aft_same x rfl hs (by first | (simp [upd, updv, h28]; done) | (simp [upd, updv, h28, hL]; rfl))
      rw [u11]
      go_simp
      with_reducible refine hK _ ?_
      clear hK K
      refine lx_loud (by rfl) (by kernel_rfl) ?_ (fun K hK => ?_)
      · intro L w3 hL hd hcl hC hs
        obtain ⟨x, rfl⟩ := hC
        have hzs := x.size
        have h13 := hcl.off hL 40 13 (by kernel_rfl)
        simp only [hL, h13, cond_false] at hs
        go_wp2
        exact aft_set x hlo ⟨_, rfl⟩ hs 5 (r' := Res.own B 3 1 (.slice (some ⟨x.world.heap.size, 0, none⟩) 1 1) 1 [.int .i64 0]) rfl (((Ext.refl x.world).alloc _).chg _) (own_box (by omega) (by decide) rfl) (fun k hk => .inr (by rw [← own_blk hk]; simp)) (by first | (simp [upd, updv, h13, hL]; done) | (simp [upd, updv, h13, hL]; rfl))
      rw [u12]
      go_simp
      with_reducible refine hK _ ?_
      clear hK K
      refine lx_loud (by rfl) (by kernel_rfl) ?_ (fun K hK => ?_)
      · intro L w3 hL hd hcl hC hs
        obtain ⟨x, rfl⟩ := hC
        have hzs := x.size
        have h28 := hcl.off hL 40 28 (by kernel_rfl)
        have h12 := hd 12 (by kernel_rfl)
        simp only [hL, h28, h12, cond_true, cond_false] at hs
        rw [u12] at hs
        refine wp_append_sep rfl _ _ 48 3 _ 1 _ rfl info_int (by kernel_rfl) rfl (by decide) B _ _ _ rfl (hs.get 2 rfl) B k12 1 1 _ rfl (hs.get 5 rfl) (fun u hu => by rw [List.mem_singleton.1 hu]; rfl) (by omega) (by decide) (by omega) ?_
        intro v' w4 ho4 hC4 hn4
        obtain ⟨av, ac, rfl⟩ := own_shape ho4
        go_wp2
        exact aft_set x hlo ⟨_, _, rfl⟩ hs 2 rfl hC4 (r' := Res.own B 3 1 (.slice av _ ac) _ _) ho4 hn4 (by first | (simp [upd, updv, h28, h12, hL, u12]; done) | (simp [upd, updv, h28, h12, hL, u12]; rfl))
      rw [u13]
      go_simp
      with_reducible refine hK _ ?_
      clear hK K
      refine lx_next 1 (by rfl) (by decide) ?_
      dsimp only [List.take, List.drop]
      repeat (go_big_quiet_step (fail))
      refine wpQuiet_nil ?_
      refine lx_loud (by rfl) (by kernel_rfl) ?_ (fun K hK => ?_)
      · intro L w3 hL hd hcl hC hs
        obtain ⟨x, rfl⟩ := hC
        have hzs := x.size
        have h30 := hcl.off hL 40 30 (by kernel_rfl)
        simp only [h30, cond_false] at hs
        have hcc := (hs.get 0 rfl).cell 3 (v := .slice ia k ic) rfl
        have hlt := (hs.get 0 rfl).lt
        go_wp2
        exact aft_same x rfl hs (by first | (simp [upd, updv, h30]; done) | (simp [upd, updv, h30, hL]; rfl))
      rw [u15]
      go_simp
      with_reducible refine hK _ ?_
      clear hK K
      refine lx_next 7 (by rfl) (by decide) ?_
      dsimp only [List.take, List.drop]
      repeat (go_big_quiet_step (fail))
      refine wpQuiet_nil ?_
      refine lx_loud (by rfl) (by kernel_rfl) ?_ (fun K hK => ?_)
      · intro L w3 hL hd hcl hC hs
        obtain ⟨x, rfl⟩ := hC
        have hzs := x.size
        have h24 := hcl.off hL 40 24 (by kernel_rfl)
        simp only [hL, h24, cond_false] at hs
        go_wp2
        exact aft_set x hlo ⟨_, rfl⟩ hs 6 (r' := Res.own B 4 1 (.slice (some ⟨x.world.heap.size, 0, none⟩) 1 1) 1 [.bool (yv == 0)]) rfl (((Ext.refl x.world).alloc _).chg _) (own_box (by omega) (by decide) rfl) (fun k hk => .inr (by rw [← own_blk hk]; simp)) (by first | (simp [upd, updv, h24, hL]; done) | (simp [upd, updv, h24, hL]; rfl))
      rw [u23]
      go_simp
      with_reducible refine hK _ ?_
      clear hK K
      refine lx_loud (by rfl) (by kernel_rfl) ?_ (fun K hK => ?_)
      · intro L w3 hL hd hcl hC hs
        obtain ⟨x, rfl⟩ := hC
        have hzs := x.size
        have h30 := hcl.off hL 40 30 (by kernel_rfl)
        have h23 := hd 23 (by kernel_rfl)
        simp only [hL, h30, h23, cond_true, cond_false] at hs
        rw [u23] at hs
        refine wp_append_sep rfl _ _ 49 4 _ 1 _ rfl info_bool (by kernel_rfl) rfl (by decide) B _ _ _ rfl (hs.get 3 rfl) B k23 1 1 _ rfl (hs.get 6 rfl) (fun u hu => by rw [List.mem_singleton.1 hu]; rfl) (by omega) (by decide) (by omega) ?_
        intro v' w4 ho4 hC4 hn4
        obtain ⟨av, ac, rfl⟩ := own_shape ho4
        go_wp2
        exact aft_set x hlo ⟨_, _, rfl⟩ hs 3 rfl hC4 (r' := Res.own B 4 1 (.slice av _ ac) _ _) ho4 hn4 (by first | (simp [upd, updv, h30, h23, hL, u23]; done) | (simp [upd, updv, h30, h23, hL, u23]; rfl))
      rw [u24]
      go_simp
      with_reducible refine hK _ ?_
      clear hK K
      refine lx_next 1 (by rfl) (by decide) ?_
      dsimp only [List.take, List.drop]
      repeat (go_big_quiet_step (fail))
      refine wpQuiet_nil ?_
      refine lx_loud (by rfl) (by kernel_rfl) ?_ (fun K hK => ?_)
      · intro L w3 hL hd hcl hC hs
        obtain ⟨x, rfl⟩ := hC
        have hzs := x.size
        have h9 := hd 9 (by kernel_rfl)
        simp only [hL, h9, cond_true, cond_false] at hs
        have f1 := (hs.get 0 rfl).frozen 1
        have hlt := (hs.get 0 rfl).lt
        have hcc := (hs.get 0 rfl).cell 1 rfl
        go_wp2
        exact aft_store x hlo trivial hs 0 rfl (by first | (simp [upd, updv, h9, hL, u9]; done) | (simp [upd, updv, h9, hL, u9]; rfl))
      go_simp
      with_reducible refine hK _ ?_
      clear hK K
      refine lx_next 1 (by rfl) (by decide) ?_
      dsimp only [List.take, List.drop]
      repeat (go_big_quiet_step (fail))
      refine wpQuiet_nil ?_
      refine lx_loud (by rfl) (by kernel_rfl) ?_ (fun K hK => ?_)
      · intro L w3 hL hd hcl hC hs
        obtain ⟨x, rfl⟩ := hC
        have hzs := x.size
        have h13 := hd 13 (by kernel_rfl)
        simp only [hL, h13, cond_true, cond_false] at hs
        have f2 := (hs.get 0 rfl).frozen 2
        have hlt := (hs.get 0 rfl).lt
        have hcc := (hs.get 0 rfl).cell 2 rfl
        go_wp2
        exact aft_store x hlo trivial hs 0 rfl (by first | (simp [upd, updv, h13, hL, u13]; done) | (simp [upd, updv, h13, hL, u13]; rfl))
      go_simp
      with_reducible refine hK _ ?_
      clear hK K
      refine lx_next 1 (by rfl) (by decide) ?_
      dsimp only [List.take, List.drop]
      repeat (go_big_quiet_step (fail))
      refine wpQuiet_nil ?_
      refine lx_loud (by rfl) (by kernel_rfl) ?_ (fun K hK => ?_)
      · intro L w3 hL hd hcl hC hs
        obtain ⟨x, rfl⟩ := hC
        have hzs := x.size
        have h24 := hd 24 (by kernel_rfl)
        simp only [hL, h24, cond_true, cond_false] at hs
        have f3 := (hs.get 0 rfl).frozen 3
        have hlt := (hs.get 0 rfl).lt
        have hcc := (hs.get 0 rfl).cell 3 rfl
        go_wp2
        exact aft_store x hlo trivial hs 0 rfl (by first | (simp [upd, updv, h24, hL, u24]; done) | (simp [upd, updv, h24, hL, u24]; rfl))
      go_simp
      with_reducible refine hK _ ?_
      clear hK K
      refine lx_nil ?_
      intro x hs
      rw [u9, u13, u24] at hs
      have hs2 : Frm B ([Res.blk k4 #[.slice none 0 0, .slice a9 (k + 1) c9, .slice a13 (k + 1) c13, .slice a24 (k + 1) c24, .slice none 0 0, .slice none 0 0, .int .i64 0, .bool false],
          Res.own B 3 1 (.slice a9 (k + 1) c9) (k + 1) (((cs.take (k + 1)).map (·.start)).map (Value.int .i64)),
          Res.own B 3 1 (.slice a13 (k + 1) c13) (k + 1) ((List.replicate (k + 1) 0).map (Value.int .i64)),
          Res.own B 4 1 (.slice a24 (k + 1) c24) (k + 1) (((cs.take (k + 1)).map (fun c => c.gin == 0)).map Value.bool)] ++ [Res.own B 3 1 (u 8) 1 [.int .i64 xv], Res.own B 3 1 (u 12) 1 [.int .i64 0], Res.own B 4 1 (u 23) 1 [.bool (yv == 0)]]) x.world := by
        rw [HX1.out, HY1.out, List.replicate_succ', List.map_append, List.map_append, List.map_append]
        exact hs
      have HS2 := Lib.hid hs2.left
      have HXX := Lib.hid (Chg.to_ext hx x.chg (by rintro i ⟨_, h⟩; exact HBE.out ▸ h))
      clear hs hs2 hT hne u1 u11 u15 u8 u12 u23 u9 u13 u24
      generalize x.world = wx at *
      clear x p0 p1 c0
      go_wp2
      go_roundw
      case rel => exact ⟨k + 1, _, _, _, by omega, by go_num, HS2.out, HXX.out⟩
      case measure => simp [intOf]; omega
    · obtain rfl : k = cs.length := by omega
      have hs := HF1.out
      rw [List.take_length] at hs
      have e1 : (Gm.begin r).left = cs.map (·.start) := by rw [← HCS.out]; rfl
      have e2 : (Gm.begin r).darts = List.replicate cs.length 0 := by rw [← HCS.out]; rfl
      have e3 : (Gm.begin r).inn = cs.map (fun c => c.gin == 0) := by rw [← HCS.out]; rfl
      have hs1 : Frm B ([Res.blk k4 #[.slice none 0 0, .slice la cs.length lc, .slice ta cs.length tc, .slice ia cs.length ic, .slice none 0 0, .slice none 0 0, .int .i64 (Gm.begin r).round, .bool (Gm.begin r).over], Res.own B 3 1 (.slice la cs.length lc) cs.length ((Gm.begin r).left.map (Value.int .i64)), Res.own B 3 1 (.slice ta cs.length tc) cs.length ((Gm.begin r).darts.map (Value.int .i64)), Res.own B 4 1 (.slice ia cs.length ic) cs.length ((Gm.begin r).inn.map Value.bool), Res.own B 3 1 (.slice none 0 0) ([] : List Int).length (([] : List Int).map (Value.int .i64)), Res.own B 3 1 (.slice none 0 0) ([] : List Int).length (([] : List Int).map (Value.int .i64)), Res.vis B (.slice none 0 0) [] []]) wr := by
        rw [e1, e2, e3]
        exact ((hs.more (r := Res.own B 3 1 (.slice none 0 0) 0 []) (World.ownsRow_nil _ _ _ _) (fun k h => by cases h)).more (r := Res.own B 3 1 (.slice none 0 0) 0 []) (World.ownsRow_nil _ _ _ _) (fun k h => by cases h)).more (r := Res.vis B (.slice none 0 0) [] []) (VisO.none _ _) (fun k h => by rcases h with h | ⟨u, hu, _⟩; cases h; cases hu)
      have HS4 := Lib.hid hs1
      have HJ0 := Lib.hid (TalJ.begin (r := r) (fun h => HOK.out (by rw [← HCS.out]; exact h)))
      clear hs hs1 e1 e2 e3 HF1 hbe hbe2
      obtain ⟨w4, rfl⟩ : ∃ x, x = wr := ⟨_, rfl⟩
      go_wp2
      go_loopw [6, 8] (fun a v wr => ∃ (m : Nat) (l : List LV) (us : List Value) (g : Gm) (E A : List Int) (vv lv tv iv ev av : Value), l.length ≤ 60 ∧ v = .int .i64 l.length ∧ a = .int .i64 m ∧ m ≤ 6 * l.length ∧ TalJ r l g E A ∧ Frm B ([Res.blk k4 #[vv, lv, tv, iv, ev, av, .int .i64 g.round, .bool g.over], Res.own B 3 1 (lv) cs.length (g.left.map (Value.int .i64)), Res.own B 3 1 (tv) cs.length (g.darts.map (Value.int .i64)), Res.own B 4 1 (iv) cs.length (g.inn.map Value.bool), Res.own B 3 1 (ev) (E : List Int).length ((E : List Int).map (Value.int .i64)), Res.own B 3 1 (av) (A : List Int).length ((A : List Int).map (Value.int .i64)), Res.vis B (vv) l us]) wr ∧ Ext w2 wr) (fun _ v _ => 61 - (intOf v).toNat)
      case atStart => exact ⟨0, [], [], Gm.begin r, [], [], _, _, _, _, _, _, by simp, rfl, rfl, Nat.zero_le _, HJ0.out, HS4.out, hx⟩
      case round =>
        obtain ⟨m, l, us, g, E, A, vv, lv, tv, iv, ev, av, hl60, rfl, rfl, hm, hJ, hF, hx⟩ := hrel
        obtain ⟨v, hv⟩ : ∃ v, l.length = v := ⟨_, rfl⟩
        obtain ⟨ov, hov⟩ : ∃ ov, g.over = ov := ⟨_, rfl⟩
        obtain ⟨gr, hgr⟩ : ∃ gr, g.round = gr := ⟨_, rfl⟩
        rw [hv] at hl60 hm
        rw [hov, hgr] at hF
        rw [hv]
        have HV := Lib.hid hv
        have HOV := Lib.hid hov
        have HGR := Lib.hid hgr
        have HJ := Lib.hid hJ
        have HF1 := Lib.hid hF
        have hsz := hx.size
        have hbe := Nat.le_of_eq HBE.out
        have hbe2 := Nat.le_of_eq HBE.out.symm
        have hb4 : Blk wr k4 #[vv, lv, tv, iv, ev, av, .int .i64 gr, .bool ov] := hF.get 0 rfl
        have hk4l := hb4.lt
        have d7 := hb4.cell 7 (v := .bool ov) rfl
        clear hv hov hgr hJ hF hb4 HS4 HJ0
        by_cases hv60 : v < 60
        · cases ov
          · by_cases hn : 0 < cs.length
            · -- ROUND
              have hT := HJ.out.tale (by rw [HCS.out]; exact hn)
              have hfb := Rul.ok_first (HOK.out hn)
              rw [HFI.out, HCS.out] at hfb
              obtain ⟨hf0, hf1⟩ := hfb
              obtain ⟨p, hp⟩ : ∃ p : Nat, (fi + (v : Int)) % (cs.length : Int) = (p : Int) := ⟨((fi + (v : Int)) % (cs.length : Int)).toNat, by rw [Int.toNat_of_nonneg (Int.emod_nonneg _ (by omega))]⟩
              have hpn : p < cs.length := by have := Int.emod_lt_of_pos (fi + (v : Int)) (by omega : (0 : Int) < cs.length); omega
              have HP := Lib.hid hp
              have HT := Lib.hid hT
              obtain ⟨gl, cl, rfl, hgl0, hgl⟩ := own_pos (HF1.out.get 1 rfl) hn
              obtain ⟨gt, ct, rfl, hgt0, hgt⟩ := own_pos (HF1.out.get 2 rfl) hn
              obtain ⟨gi, ci, rfl, hgi0, hgi⟩ := own_pos (HF1.out.get 3 rfl) hn
              obtain ⟨xl, hxl⟩ : ∃ xl, g.left = xl := ⟨_, rfl⟩
              obtain ⟨xd, hxd⟩ : ∃ xd, g.darts = xd := ⟨_, rfl⟩
              obtain ⟨xi, hxi⟩ : ∃ xi, g.inn = xi := ⟨_, rfl⟩
              rw [hxl, hxd, hxi] at HF1
              have hll : xl.length = cs.length := by rw [← hxl, HJ.out.left, HCS.out]
              have hdl : xd.length = cs.length := by rw [← hxd, HJ.out.darts, HCS.out]
              have hil : xi.length = cs.length := by rw [← hxi, HJ.out.inn, HCS.out]
              have HLL := Lib.hid hll
              have HDL := Lib.hid hdl
              have HIL := Lib.hid hil
              have HXL := Lib.hid hxl
              have HXD := Lib.hid hxd
              have HXI := Lib.hid hxi
              have hpl : p < xl.length := by omega
              have hpi : p < xi.length := by omega
              have sl := own_int_at (HF1.out.get 1 rfl) hpl
              have si := own_bool_at (HF1.out.get 3 rfl) hpi
              obtain ⟨b, o, hca, p0, p1, p2⟩ := HC2.out p hpn
              subst hca
              have hbl := lt_of_cell p0
              simp only at hbl
              replace p0 := hx.cell p0
              replace p1 := hx.cell p1
              replace p2 := hx.cell p2
              have hbl2 : b < wr.heap.size := by omega
              have hKl2 : K < wr.heap.size := by omega
              have c0 := (HB3.out.ext hx).cell 0 (v := .slice (some ⟨b, o, none⟩) cs.length cc) rfl
              have c1 := (HB3.out.ext hx).cell 1 (v := .int .i64 fi) rfl
              have hb4 : Blk wr k4 #[vv, .slice (some ⟨gl, 0, none⟩) cs.length cl, .slice (some ⟨gt, 0, none⟩) cs.length ct, .slice (some ⟨gi, 0, none⟩) cs.length ci, ev, av, .int .i64 gr, .bool false] := HF1.out.get 0 rfl
              have d1 := hb4.cell 1 (v := .slice (some ⟨gl, 0, none⟩) cs.length cl) rfl
              have d3 := hb4.cell 3 (v := .slice (some ⟨gi, 0, none⟩) cs.length ci) rfl
              obtain ⟨N, hN⟩ : ∃ N, N = wr.heap.size := ⟨_, rfl⟩
              have n1 : ¬ (N ≤ b) := by omega
              have n2 : ¬ (N ≤ K) := by omega
              have n3 : ¬ (N ≤ k4) := by omega
              have n4 : ¬ (N ≤ gl) := by omega
              have n5 : ¬ (N ≤ gi) := by omega
              have hlo : N ≤ wr.heap.size := by omega
              have HN := Lib.hid hN
              have hlb : 0 ≤ xl[p] ∧ xl[p] ≤ 1001 := by
                have h1 := hT.ok.lefts xl[p] (by rw [hxl]; exact List.getElem_mem hpl)
                exact h1
              have hcb : cs[p].ok = true := Rul.ok_count (HOK.out hn) (by rw [HCS.out]; exact List.getElem_mem hpn)
              have hcb2 := cntB_start hcb
              have HLB := Lib.hid hlb
              have HGIb := Lib.hid hcb2.2.1
              have HGOb := Lib.hid hcb2.2.2
              clear hT hll hdl hil hxl hxd hxi hN hb4 hlb hcb hcb2
              obtain ⟨lp, hlp⟩ : ∃ lp, xl[p] = lp := ⟨_, rfl⟩
              obtain ⟨ip, hip⟩ : ∃ ip, xi[p] = ip := ⟨_, rfl⟩
              obtain ⟨cst, hcst⟩ : ∃ x, cs[p].start = x := ⟨_, rfl⟩
              obtain ⟨cgi, hcgi⟩ : ∃ x, cs[p].gin = x := ⟨_, rfl⟩
              obtain ⟨cgo, hcgo⟩ : ∃ x, cs[p].gout = x := ⟨_, rfl⟩
              rw [hlp] at sl HLB
              rw [hip] at si
              rw [hcst] at p0
              rw [hcgi] at p1 HGIb
              rw [hcgo] at p2 HGOb
              have HLP := Lib.hid hlp
              have HIP := Lib.hid hip
              have HGI := Lib.hid hcgi
              have HGO := Lib.hid hcgo
              clear hlp hip hcst hcgi hcgo
              go_upto_region 11 with fail
              refine wp_region_sep (by kernel_rfl) [.no, .no, .no, .no, .no, .no, .no, .no, .no, .no, .no, .no, .no, .no, .no, .no, .no, .ptr, .ptr, .any, .no, .no, .any] N
                (fun L u => [bif L 17 then Res.blk (ptrOf (u 17)) (bif L 19 then #[.int .i64 cst, .int .i64 cgi, .int .i64 cgo] else #[.int .i64 0, .int .i64 0, .int .i64 0]) else Res.none, bif L 18 then Res.blk (ptrOf (u 18)) (bif L 22 then #[.int .i64 p, .slice none 0 0] else #[.int .i64 0, .slice none 0 0]) else Res.none])
                (by kernel_rfl) (Nat.le_of_ble_eq_true rfl) (fun L L' u hh => by simp only [hh 17 rfl, hh 18 rfl, hh 19 rfl, hh 22 rfl]) (fun _ => Frm.nones N 2 wr) ?_
              intro T hT hne u hu
              obtain ⟨k17, u17⟩ : ∃ k, u 17 = .pointer (some ⟨k, 0, none⟩) := hu 17 rfl
              obtain ⟨k18, u18⟩ : ∃ k, u 18 = .pointer (some ⟨k, 0, none⟩) := hu 18 rfl
              clear hu
              refine lx_next 17 (by rfl) (by decide) ?_
              dsimp only [List.take, List.drop]
              repeat (go_big_quiet_step (fail))
              refine wpQuiet_nil ?_
              refine lx_loud (by rfl) (by kernel_rfl) ?_ (fun K hK => ?_)
              · intro L w3 hL hd hcl hC hs
                obtain ⟨x, rfl⟩ := hC
                have hzs := x.size
                have h19 := hcl.off hL 40 19 (by kernel_rfl)
                simp only [hL, h19, cond_false] at hs
                go_wp2
                exact aft_set x hlo ⟨_, rfl⟩ hs 0 (r' := Res.blk x.world.heap.size #[.int .i64 0, .int .i64 0, .int .i64 0]) rfl (((Ext.refl x.world).alloc _).chg _) (Blk.new _ _ _) (fun k hk => .inr (by rw [show k = x.world.heap.size from hk]; simp)) (by first | (simp [upd, updv, hL, h19]; done) | (simp [upd, updv, hL, h19]; rfl))
              rw [u17]
              go_simp
              with_reducible refine hK _ ?_
              clear hK K
              refine lx_loud (by rfl) (by kernel_rfl) ?_ (fun K hK => ?_)
              · intro L w3 hL hd hcl hC hs
                obtain ⟨x, rfl⟩ := hC
                have hzs := x.size
                have h22 := hcl.off hL 40 22 (by kernel_rfl)
                simp only [hL, h22, cond_false] at hs
                go_wp2
                exact aft_set x hlo ⟨_, rfl⟩ hs 1 (r' := Res.blk x.world.heap.size #[.int .i64 0, .slice none 0 0]) rfl (((Ext.refl x.world).alloc _).chg _) (Blk.new _ _ _) (fun k hk => .inr (by rw [show k = x.world.heap.size from hk]; simp)) (by first | (simp [upd, updv, hL, h22]; done) | (simp [upd, updv, hL, h22]; rfl))
              rw [u18]
              go_simp
              with_reducible refine hK _ ?_
              clear hK K
              refine lx_loud (by rfl) (by kernel_rfl) ?_ (fun K hK => ?_)
              · intro L w3 hL hd hcl hC hs
                obtain ⟨x, rfl⟩ := hC
                have hzs := x.size
                have h17 := hd 17 (by kernel_rfl)
                simp only [hL, h17, cond_true, cond_false] at hs
                rw [u17] at hs
                have hb : Blk x.world k17 #[.int .i64 0, .int .i64 0, .int .i64 0] := hs.get 0 rfl
                have hlt := hb.lt
                have q0 := hb.cell 0 (v := .int .i64 0) rfl
                have f0 := hb.frozen 0
                have q1 := hb.cell 1 (v := .int .i64 0) rfl
                have f1 := hb.frozen 1
                have q2 := hb.cell 2 (v := .int .i64 0) rfl
                have f2 := hb.frozen 2
                go_wp2
                exact aft_set x hlo trivial hs 0 rfl (three_chg (fun k => k = k17) _ rfl _ _ _ ) (r' := Res.blk k17 #[.int .i64 cst, .int .i64 cgi, .int .i64 cgo]) (three_set hb _ _ _ ) (fun _ hk => .inl hk) (by first | (simp [upd, updv, h17, hL, u17]; done) | (simp [upd, updv, h17, hL, u17]; rfl))
              go_simp
              with_reducible refine hK _ ?_
              clear hK K
              refine lx_next 2 (by rfl) (by decide) ?_
              dsimp only [List.take, List.drop]
              repeat (go_big_quiet_step (fail))
              refine wpQuiet_nil ?_
              refine lx_loud (by rfl) (by kernel_rfl) ?_ (fun K hK => ?_)
              · intro L w3 hL hd hcl hC hs
                obtain ⟨x, rfl⟩ := hC
                have hzs := x.size
                have h18 := hd 18 (by kernel_rfl)
                simp only [hL, h18, cond_true, cond_false] at hs
                rw [u18] at hs
                have hb : Blk x.world k18 #[.int .i64 0, .slice none 0 0] := hs.get 1 rfl
                have hlt := hb.lt
                have q0 := hb.cell 0 (v := .int .i64 0) rfl
                have f0 := hb.frozen 0
                have q1 := hb.cell 1 (v := .slice none 0 0) rfl
                have f1 := hb.frozen 1
                go_wp2
                exact aft_set x hlo trivial hs 1 rfl (two_chg (fun k => k = k18) _ rfl _ _ ) (r' := Res.blk k18 #[.int .i64 p, .slice none 0 0]) (two_set hb _ _ ) (fun _ hk => .inl hk) (by first | (simp [upd, updv, h18, hL, u18]; done) | (simp [upd, updv, h18, hL, u18]; rfl))
              go_simp
              with_reducible refine hK _ ?_
              clear hK K
              refine lx_nil ?_
              intro x hs
              rw [u17, u18] at hs
              have hX : Ext wr x.world := Chg.to_ext (Ext.refl wr) x.chg (by rintro i ⟨_, h⟩; exact HN.out ▸ h)
              have hs2 := ((HF1.out.both hX (by omega) (rs' := [Res.blk k17 #[.int .i64 cst, .int .i64 cgi, .int .i64 cgo], Res.blk k18 #[.int .i64 p, .slice none 0 0]]) (HN.out ▸ hs)).more (r := Res.own B 34 1 (.slice none 0 0) 0 []) (World.ownsRow_nil _ _ _ _) (fun k h => by cases h))
              have HS5 := Lib.hid hs2
              have HX5 := Lib.hid (hx.trans hX)
              clear hs hs2 hX hT hne u17 u18
              generalize x.world = w5 at *
              clear x p0 p1 p2 c0 c1 d1 d3 d7 sl si n1 n2 n3 n4 n5 hlo hk4l
              have hE60 : E.length ≤ 60 := by have := HT.out.bound; have := HV.out; omega
              have hA60 : A.length ≤ 60 := by rw [HT.out.len]; exact hE60
              have HBd2 := Lib.hid (fun (i : Nat) (hi : i ≤ 1000000) W (hx : Ext w2 W) => HBd.out i hi W (HE2.out.trans hx))
              go_upto_block 4 with fail
              refine tale_inner _ (by kernel_rfl) H sa ba sc bc w.heap.size B k4 k17 k18 gl cl gt ct gi ci m v p cs cst cgi cgo lp ip vv ev av gr xl xd E A xi l us w2 w5 HBd2 HB1' hbe hbe2 (by omega) HLB HGIb HGOb hpl hpi hpn hn5 HLP HIP (by omega) hv60 (by omega) (by omega) HS5 HX5 _ ?_
              intro r14 r15 r91 r92 r93 r94 r95 r96 r97 r98 r99 r100 r101 r102 r103 r104 r105 r106 r107 r108 r109 r110 r111 r112 r113 r114 r115 r116 r117 r118 r119 r120 r121 r122 r123 r124 r125 r126 r127 r128 r129 r130 r131 r132 r133 r134 r135 r136 r137 r138 r139 r140 r141 r142 r143 r144 r145 r146 r147 r148 r149 r150 r151 r152 r153 r154 r155 r156 r157 r158 r159 r160 r161 r162 r163 r164 r165 r166 r167 m' bs y bv ev' av' w6 hm' hthr hbs hyd hs6 hx6
              rename_i K0 a0
              refine a0 _ _ ?_
              have hpd : p < xd.length := by have := HDL.out; omega
              have hdp : 0 ≤ xd[p] ∧ xd[p] ≤ 1000 := by
                have h1 := HT.out.ok.dartss xd[p] (by rw [HXD.out]; exact List.getElem_mem hpd)
                have h2 := HV.out
                omega
              have hgrb : 0 ≤ gr ∧ gr ≤ 1000 := by
                have h1 := HT.out.ok.round
                have h2 := HV.out
                rw [HGR.out] at h1
                omega
              refine tale_tail _ (by kernel_rfl) B K k4 k17 k18 gl cl gt ct gi ci v p cs cst cgi cgo fi ro y.left xd[p] eq y.inn (.slice (some ⟨b, o, none⟩) cs.length cc) vv ev' av' bv gr xl xd (wonA y.won E p) (wonA y.won A y.darts) bs xi l us w2 w6 HB3 hbe hbe2 (by omega) hpl hpd hpi hpn hn5 (Lib.hid rfl) hdp hv60 (by unfold wonA; split; rw [List.length_append, List.length_singleton]; omega; omega) hgrb (by have := HV.out; omega) hbs.1.2 (Lib.hid hs6) (Lib.hid hx6) _ ?_
              intro r55 r56 r57 r58 r59 r60 r61 r62 r63 r64 r65 r66 r67 r68 r69 r70 r71 r72 r73 r74 r75 r76 r77 r78 r79 r80 r81 r82 r83 r84 r85 r86 r87 r88 r89 r90 r91 r92 r93 r94 r95 r96 r97 r98 r99 r100 r101 r102 r103 r104 r105 r106 r107 r108 r109 r110 r111 r112 r113 r114 r115 r116 r117 r118 r119 r120 r121 r122 r123 r124 r125 r126 r127 r128 r129 r130 r131 r132 r133 r134 r135 r136 r137 r138 r139 r140 r141 r142 r143 r144 r145 r146 r147 r148 r149 r150 r151 r152 r153 r154 r155 r156 r157 r158 r159 r160 r161 r162 r163 r164 r165 r166 r167 r168 r169 r170 r171 r172 r173 r174 r175 r176 r177 r178 r179 r180 r181 r182 r183 r184 r185 r186 r187 r188 r189 r190 r191 r192 r193 r194 r195 r196 r197 r198 r199 r200 r201 r202 r203 r204 r205 r206 r207 r208 r209 r210 r211 r212 r213 r214 r215 r216 r217 r218 r219 r220 r221 r222 r223 r224 r225 r226 r227 r228 r229 r230 r231 r232 r233 r234 r235 r236 vv' us' w7 hs7 hx7
              have hthr2 : g.thr r p bs = (y, -1, 0) := by
                rw [← hthr, ← HGI.out, ← HGO.out, ← HLP.out, ← HIP.out]
                unfold Gm.thr cntOf
                rw [HCS.out, HXL.out, HXI.out]
                simp [List.getD_eq_getElem?_getD, hpn, hpl, hpi]
              obtain ⟨g', hJ', t1, t2, t3, t4, t5⟩ := tal_next (HOK.out hn) HT.out HOV.out (p := p) (by rw [HFI.out, HV.out, HCS.out, HP.out]) hthr2 hbs hyd
              rw [HXL.out] at t1
              rw [HXD.out] at t2
              rw [HXI.out] at t3
              rw [HGR.out, HV.out, HCS.out] at t4
              rw [HEQ.out, HRO.out, HGR.out, HV.out, HCS.out] at t5
              have t2' : g'.darts = xd.set p (xd[p] + bs.length) := by
                rw [t2]
                simp [List.getD_eq_getElem?_getD, hpd]
              rw [← t1, ← t2', ← t3, ← t5, ← t4] at hs7
              have HS7 := Lib.hid hs7
              have HX7 := Lib.hid hx7
              have HJ7 := Lib.hid hJ'
              clear hs7 hx7 hJ' hs6 hx6 t1 t2 t2' t3 t4 t5 hthr hthr2 hdp hgrb hbs hyd
              go_wp2
              go_roundw
              case rel => exact ⟨m', l ++ [⟨p, bs⟩], us', g', _, _, vv', _, _, _, ev', av', by rw [List.length_append, HV.out, List.length_singleton]; omega, by rw [List.length_append, HV.out]; go_num, rfl, by rw [List.length_append, HV.out, List.length_singleton]; omega, HJ7.out, HS7.out, HX7.out⟩
              case measure => simp [intOf]; omega
            · -- nobody
              have hlast : 0 < H.counts.length → g.over = true ∨ l.length = 60 := fun h0 => absurd h0 (by rw [show H.counts = cs by rw [← HCS.out, ← HR.out]; rfl]; exact hn)
              have hb4 : Blk wr k4 #[vv, lv, tv, iv, ev, av, .int .i64 gr, .bool false] := HF1.out.get 0 rfl
              have hT2 := HB2'.out.ext hx
              have d0 := hb4.cell 0 (v := vv) rfl
              have d1 := hb4.cell 1 (v := lv) rfl
              have d2 := hb4.cell 2 (v := tv) rfl
              have d3 := hb4.cell 3 (v := iv) rfl
              have d4 := hb4.cell 4 (v := ev) rfl
              have d5 := hb4.cell 5 (v := av) rfl
              have d6 := hb4.cell 6 (v := .int .i64 gr) rfl
              have e0 := hT2.cell 0 (v := .slice none 0 0) rfl
              have f0 := hT2.frozen 0
              have e1 := hT2.cell 1 (v := .slice none 0 0) rfl
              have f1 := hT2.frozen 1
              have e2 := hT2.cell 2 (v := .slice none 0 0) rfl
              have f2 := hT2.frozen 2
              have e3 := hT2.cell 3 (v := .slice none 0 0) rfl
              have f3 := hT2.frozen 3
              have e4 := hT2.cell 4 (v := .slice none 0 0) rfl
              have f4 := hT2.frozen 4
              have e5 := hT2.cell 5 (v := .slice none 0 0) rfl
              have f5 := hT2.frozen 5
              have e6 := hT2.cell 6 (v := .int .i64 0) rfl
              have f6 := hT2.frozen 6
              have e7 := hT2.cell 7 (v := .bool false) rfl
              have f7 := hT2.frozen 7
              have ht2l := hT2.lt
              have ovv : vv.oneCell' = true := (own_shape (HF1.out.get 6 rfl).outer).elim fun a h => h.elim fun c e => by rw [e]; rfl
              have HT2 := Lib.hid hT2
              obtain ⟨va, vc, rfl⟩ := own_shape (HF1.out.get 6 rfl).outer
              obtain ⟨la', lc', rfl⟩ := own_shape (HF1.out.get 1 rfl)
              obtain ⟨ta', tc', rfl⟩ := own_shape (HF1.out.get 2 rfl)
              obtain ⟨ia', ic', rfl⟩ := own_shape (HF1.out.get 3 rfl)
              obtain ⟨ea', ec', rfl⟩ := own_shape (HF1.out.get 4 rfl)
              obtain ⟨aa', ac', rfl⟩ := own_shape (HF1.out.get 5 rfl)
              clear hb4 hT2 ovv
              go_wp2
              generalize hW : World.setCell _ _ _ = W
              have hB8 := eight_set HT2.out (.slice va l.length vc) (.slice la' cs.length lc') (.slice ta' cs.length tc') (.slice ia' cs.length ic') (.slice ea' E.length ec') (.slice aa' A.length ac') (.int .i64 gr) (.bool false)
              have hC8 := eight_chg (fun k => k = w.heap.size + 1) wr (b := w.heap.size + 1) rfl (.slice va l.length vc) (.slice la' cs.length lc') (.slice ta' cs.length tc') (.slice ia' cs.length ic') (.slice ea' E.length ec') (.slice aa' A.length ac') (.int .i64 gr) (.bool false)
              rw [hW] at hB8 hC8
              have q0 := hB8.cell 0 (v := (.slice va l.length vc)) rfl
              have q1 := hB8.cell 1 (v := (.slice la' cs.length lc')) rfl
              have q2 := hB8.cell 2 (v := (.slice ta' cs.length tc')) rfl
              have q3 := hB8.cell 3 (v := (.slice ia' cs.length ic')) rfl
              have q4 := hB8.cell 4 (v := (.slice ea' E.length ec')) rfl
              have q5 := hB8.cell 5 (v := (.slice aa' A.length ac')) rfl
              have q6 := hB8.cell 6 (v := (.int .i64 gr)) rfl
              have q7 := hB8.cell 7 (v := (.bool false)) rfl
              refine bodyPost_ret (v := .agg #[.slice va l.length vc, .slice la' cs.length lc', .slice ta' cs.length tc', .slice ia' cs.length ic', .slice ea' E.length ec', .slice aa' A.length ac', .int .i64 gr, .bool false]) (by simp [results, Try.results34, go_sem, q0, q1, q2, q3, q4, q5, q6, q7]) rfl ?_
              have hfw := HF1.out.low hC8 (fun k hk => by omega)
              have hlw : w.heap.size ≤ B := by omega
              refine ⟨l, us, g, E, A, _, _, _, _, _, _, by rw [HGR.out, HOV.out], ⟨fun h0 => ?_, fun h0 => ?_, (hfw.get 6 rfl).mono hlw, ?_, ?_, ?_, own_mono (hfw.get 4 rfl) hlw, own_mono (hfw.get 5 rfl) hlw, by have := HV.out; omega, fun h0 => ?_⟩, Chg.to_ext (HE2.out.trans hx) hC8 (by rintro i rfl; omega)⟩
              · have := HJ.out.zero (by rw [← HR.out]; exact h0)
                rw [HR.out]
                exact this
              · rw [HR.out]
                exact HJ.out.tale (by rw [← HR.out]; exact h0)
              · have := own_mono (hfw.get 1 rfl) hlw
                unfold OwnI
                rw [HJ.out.left, HCS.out]
                exact this
              · have := own_mono (hfw.get 2 rfl) hlw
                unfold OwnI
                rw [HJ.out.darts, HCS.out]
                exact this
              · have := own_mono (hfw.get 3 rfl) hlw
                unfold OwnB
                rw [HJ.out.inn, HCS.out]
                exact this
              · exact hlast h0
          · -- over
            have hlast : 0 < H.counts.length → g.over = true ∨ l.length = 60 := fun _ => .inl HOV.out
            have hb4 : Blk wr k4 #[vv, lv, tv, iv, ev, av, .int .i64 gr, .bool true] := HF1.out.get 0 rfl
            have hT2 := HB2'.out.ext hx
            have d0 := hb4.cell 0 (v := vv) rfl
            have d1 := hb4.cell 1 (v := lv) rfl
            have d2 := hb4.cell 2 (v := tv) rfl
            have d3 := hb4.cell 3 (v := iv) rfl
            have d4 := hb4.cell 4 (v := ev) rfl
            have d5 := hb4.cell 5 (v := av) rfl
            have d6 := hb4.cell 6 (v := .int .i64 gr) rfl
            have e0 := hT2.cell 0 (v := .slice none 0 0) rfl
            have f0 := hT2.frozen 0
            have e1 := hT2.cell 1 (v := .slice none 0 0) rfl
            have f1 := hT2.frozen 1
            have e2 := hT2.cell 2 (v := .slice none 0 0) rfl
            have f2 := hT2.frozen 2
            have e3 := hT2.cell 3 (v := .slice none 0 0) rfl
            have f3 := hT2.frozen 3
            have e4 := hT2.cell 4 (v := .slice none 0 0) rfl
            have f4 := hT2.frozen 4
            have e5 := hT2.cell 5 (v := .slice none 0 0) rfl
            have f5 := hT2.frozen 5
            have e6 := hT2.cell 6 (v := .int .i64 0) rfl
            have f6 := hT2.frozen 6
            have e7 := hT2.cell 7 (v := .bool false) rfl
            have f7 := hT2.frozen 7
            have ht2l := hT2.lt
            have ovv : vv.oneCell' = true := (own_shape (HF1.out.get 6 rfl).outer).elim fun a h => h.elim fun c e => by rw [e]; rfl
            have HT2 := Lib.hid hT2
            obtain ⟨va, vc, rfl⟩ := own_shape (HF1.out.get 6 rfl).outer
            obtain ⟨la', lc', rfl⟩ := own_shape (HF1.out.get 1 rfl)
            obtain ⟨ta', tc', rfl⟩ := own_shape (HF1.out.get 2 rfl)
            obtain ⟨ia', ic', rfl⟩ := own_shape (HF1.out.get 3 rfl)
            obtain ⟨ea', ec', rfl⟩ := own_shape (HF1.out.get 4 rfl)
            obtain ⟨aa', ac', rfl⟩ := own_shape (HF1.out.get 5 rfl)
            clear hb4 hT2 ovv
            go_wp2
            generalize hW : World.setCell _ _ _ = W
            have hB8 := eight_set HT2.out (.slice va l.length vc) (.slice la' cs.length lc') (.slice ta' cs.length tc') (.slice ia' cs.length ic') (.slice ea' E.length ec') (.slice aa' A.length ac') (.int .i64 gr) (.bool true)
            have hC8 := eight_chg (fun k => k = w.heap.size + 1) wr (b := w.heap.size + 1) rfl (.slice va l.length vc) (.slice la' cs.length lc') (.slice ta' cs.length tc') (.slice ia' cs.length ic') (.slice ea' E.length ec') (.slice aa' A.length ac') (.int .i64 gr) (.bool true)
            rw [hW] at hB8 hC8
            have q0 := hB8.cell 0 (v := (.slice va l.length vc)) rfl
            have q1 := hB8.cell 1 (v := (.slice la' cs.length lc')) rfl
            have q2 := hB8.cell 2 (v := (.slice ta' cs.length tc')) rfl
            have q3 := hB8.cell 3 (v := (.slice ia' cs.length ic')) rfl
            have q4 := hB8.cell 4 (v := (.slice ea' E.length ec')) rfl
            have q5 := hB8.cell 5 (v := (.slice aa' A.length ac')) rfl
            have q6 := hB8.cell 6 (v := (.int .i64 gr)) rfl
            have q7 := hB8.cell 7 (v := (.bool true)) rfl
            refine bodyPost_ret (v := .agg #[.slice va l.length vc, .slice la' cs.length lc', .slice ta' cs.length tc', .slice ia' cs.length ic', .slice ea' E.length ec', .slice aa' A.length ac', .int .i64 gr, .bool true]) (by simp [results, Try.results34, go_sem, q0, q1, q2, q3, q4, q5, q6, q7]) rfl ?_
            have hfw := HF1.out.low hC8 (fun k hk => by omega)
            have hlw : w.heap.size ≤ B := by omega
            refine ⟨l, us, g, E, A, _, _, _, _, _, _, by rw [HGR.out, HOV.out], ⟨fun h0 => ?_, fun h0 => ?_, (hfw.get 6 rfl).mono hlw, ?_, ?_, ?_, own_mono (hfw.get 4 rfl) hlw, own_mono (hfw.get 5 rfl) hlw, by have := HV.out; omega, fun h0 => ?_⟩, Chg.to_ext (HE2.out.trans hx) hC8 (by rintro i rfl; omega)⟩
            · have := HJ.out.zero (by rw [← HR.out]; exact h0)
              rw [HR.out]
              exact this
            · rw [HR.out]
              exact HJ.out.tale (by rw [← HR.out]; exact h0)
            · have := own_mono (hfw.get 1 rfl) hlw
              unfold OwnI
              rw [HJ.out.left, HCS.out]
              exact this
            · have := own_mono (hfw.get 2 rfl) hlw
              unfold OwnI
              rw [HJ.out.darts, HCS.out]
              exact this
            · have := own_mono (hfw.get 3 rfl) hlw
              unfold OwnB
              rw [HJ.out.inn, HCS.out]
              exact this
            · exact hlast h0
        · -- sixty visits
          have hlast : 0 < H.counts.length → g.over = true ∨ l.length = 60 := fun _ => .inr (by have := HV.out; omega)
          have hv60' : v = 60 := by omega
          have hb4 : Blk wr k4 #[vv, lv, tv, iv, ev, av, .int .i64 gr, .bool ov] := HF1.out.get 0 rfl
          have hT2 := HB2'.out.ext hx
          have d0 := hb4.cell 0 (v := vv) rfl
          have d1 := hb4.cell 1 (v := lv) rfl
          have d2 := hb4.cell 2 (v := tv) rfl
          have d3 := hb4.cell 3 (v := iv) rfl
          have d4 := hb4.cell 4 (v := ev) rfl
          have d5 := hb4.cell 5 (v := av) rfl
          have d6 := hb4.cell 6 (v := .int .i64 gr) rfl
          have e0 := hT2.cell 0 (v := .slice none 0 0) rfl
          have f0 := hT2.frozen 0
          have e1 := hT2.cell 1 (v := .slice none 0 0) rfl
          have f1 := hT2.frozen 1
          have e2 := hT2.cell 2 (v := .slice none 0 0) rfl
          have f2 := hT2.frozen 2
          have e3 := hT2.cell 3 (v := .slice none 0 0) rfl
          have f3 := hT2.frozen 3
          have e4 := hT2.cell 4 (v := .slice none 0 0) rfl
          have f4 := hT2.frozen 4
          have e5 := hT2.cell 5 (v := .slice none 0 0) rfl
          have f5 := hT2.frozen 5
          have e6 := hT2.cell 6 (v := .int .i64 0) rfl
          have f6 := hT2.frozen 6
          have e7 := hT2.cell 7 (v := .bool false) rfl
          have f7 := hT2.frozen 7
          have ht2l := hT2.lt
          have ovv : vv.oneCell' = true := (own_shape (HF1.out.get 6 rfl).outer).elim fun a h => h.elim fun c e => by rw [e]; rfl
          have HT2 := Lib.hid hT2
          obtain ⟨va, vc, rfl⟩ := own_shape (HF1.out.get 6 rfl).outer
          obtain ⟨la', lc', rfl⟩ := own_shape (HF1.out.get 1 rfl)
          obtain ⟨ta', tc', rfl⟩ := own_shape (HF1.out.get 2 rfl)
          obtain ⟨ia', ic', rfl⟩ := own_shape (HF1.out.get 3 rfl)
          obtain ⟨ea', ec', rfl⟩ := own_shape (HF1.out.get 4 rfl)
          obtain ⟨aa', ac', rfl⟩ := own_shape (HF1.out.get 5 rfl)
          clear hb4 hT2 ovv
          go_wp2
          generalize hW : World.setCell _ _ _ = W
          have hB8 := eight_set HT2.out (.slice va l.length vc) (.slice la' cs.length lc') (.slice ta' cs.length tc') (.slice ia' cs.length ic') (.slice ea' E.length ec') (.slice aa' A.length ac') (.int .i64 gr) (.bool ov)
          have hC8 := eight_chg (fun k => k = w.heap.size + 1) wr (b := w.heap.size + 1) rfl (.slice va l.length vc) (.slice la' cs.length lc') (.slice ta' cs.length tc') (.slice ia' cs.length ic') (.slice ea' E.length ec') (.slice aa' A.length ac') (.int .i64 gr) (.bool ov)
          rw [hW] at hB8 hC8
          have q0 := hB8.cell 0 (v := (.slice va l.length vc)) rfl
          have q1 := hB8.cell 1 (v := (.slice la' cs.length lc')) rfl
          have q2 := hB8.cell 2 (v := (.slice ta' cs.length tc')) rfl
          have q3 := hB8.cell 3 (v := (.slice ia' cs.length ic')) rfl
          have q4 := hB8.cell 4 (v := (.slice ea' E.length ec')) rfl
          have q5 := hB8.cell 5 (v := (.slice aa' A.length ac')) rfl
          have q6 := hB8.cell 6 (v := (.int .i64 gr)) rfl
          have q7 := hB8.cell 7 (v := (.bool ov)) rfl
          refine bodyPost_ret (v := .agg #[.slice va l.length vc, .slice la' cs.length lc', .slice ta' cs.length tc', .slice ia' cs.length ic', .slice ea' E.length ec', .slice aa' A.length ac', .int .i64 gr, .bool ov]) (by simp [results, Try.results34, go_sem, q0, q1, q2, q3, q4, q5, q6, q7]) rfl ?_
          have hfw := HF1.out.low hC8 (fun k hk => by omega)
          have hlw : w.heap.size ≤ B := by omega
          refine ⟨l, us, g, E, A, _, _, _, _, _, _, by rw [HGR.out, HOV.out], ⟨fun h0 => ?_, fun h0 => ?_, (hfw.get 6 rfl).mono hlw, ?_, ?_, ?_, own_mono (hfw.get 4 rfl) hlw, own_mono (hfw.get 5 rfl) hlw, by have := HV.out; omega, fun h0 => ?_⟩, Chg.to_ext (HE2.out.trans hx) hC8 (by rintro i rfl; omega)⟩
          · have := HJ.out.zero (by rw [← HR.out]; exact h0)
            rw [HR.out]
            exact this
          · rw [HR.out]
            exact HJ.out.tale (by rw [← HR.out]; exact h0)
          · have := own_mono (hfw.get 1 rfl) hlw
            unfold OwnI
            rw [HJ.out.left, HCS.out]
            exact this
          · have := own_mono (hfw.get 2 rfl) hlw
            unfold OwnI
            rw [HJ.out.darts, HCS.out]
            exact this
          · have := own_mono (hfw.get 3 rfl) hlw
            unfold OwnB
            rw [HJ.out.inn, HCS.out]
            exact this
          · exact hlast h0
end Go.Proofs.Ytocnglplhnhllaa
