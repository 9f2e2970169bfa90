/-
  The statement LegTold: walked.
-/
import Derived.Test.YtocnglplhnhllaaSex
import Derived.Test.YtocnglplhnhllaaTam
import Derived.Test.YtocnglplhnhllaaKep
import Derived.Test.YtocnglplhnhllaaKno
import Derived.Test.YtocnglplhnhllaaLtg
namespace Go.Proofs.Ytocnglplhnhllaa
open Go.RowKit Go.BigFrame
attribute [local go_sem] Later.cell Later.frozen Lat.cell Lat.frozen
theorem made_bools (n : Nat) : (madeCells (Value.bool false).cells (n * 1)).toList = (List.replicate n false).map Value.bool := by
  apply List.ext_getElem
  · simp [madeCells]
  · intro i h1 h2
    simp [madeCells, Value.cells, Nat.mod_one]
/-- While the rows are filled. -/
structure IniS (r : Rul) (p : Nat) (xs : List Int) (ys : List Bool) : Prop where
  lx : xs.length = r.counts.length
  ly : ys.length = r.counts.length
  x : ∀ j (h : j < r.counts.length), j < p → xs[j]? = some r.counts[j].start
  y : ∀ j (h : j < r.counts.length), j < p → ys[j]? = some (r.counts[j].gin == 0)
theorem IniS.step {r : Rul} {p : Nat} {xs : List Int} {ys : List Bool} (h : IniS r p xs ys) (hp : p < r.counts.length) {st : Int} {gb : Bool} (hst : r.counts[p].start = st) (hgb : (r.counts[p].gin == 0) = gb) : IniS r (p + 1) (xs.set p st) (ys.set p gb) := by
  refine ⟨by rw [List.length_set]; exact h.lx, by rw [List.length_set]; exact h.ly, fun j hj hjp => ?_, fun j hj hjp => ?_⟩
  · by_cases e : p = j
    · subst e
      rw [List.getElem?_set_self (by rw [h.lx]; exact hp), hst]
    · rw [List.getElem?_set_ne e]
      exact h.x j hj (by omega)
  · by_cases e : p = j
    · subst e
      rw [List.getElem?_set_self (by rw [h.ly]; exact hp), hgb]
    · rw [List.getElem?_set_ne e]
      exact h.y j hj (by omega)
theorem IniS.done {r : Rul} {xs : List Int} {ys : List Bool} (h : IniS r r.counts.length xs ys) : xs = (Gm.begin r).left ∧ ys = (Gm.begin r).inn := by
  constructor
  · apply List.ext_getElem?
    intro j
    by_cases hj : j < r.counts.length
    · rw [h.x j hj hj]
      simp [Gm.begin, hj]
    · rw [List.getElem?_eq_none (by rw [h.lx]; omega), List.getElem?_eq_none (by simp [Gm.begin]; omega)]
  · apply List.ext_getElem?
    intro j
    by_cases hj : j < r.counts.length
    · rw [h.y j hj hj]
      simp [Gm.begin, hj]
    · rw [List.getElem?_eq_none (by rw [h.ly]; omega), List.getElem?_eq_none (by simp [Gm.begin]; omega)]
set_option maxRecDepth 100000 in
set_option maxHeartbeats 16000000 in
theorem law_LegTold (H : Hnd) (sa ba : Option Addr) (sc bc : Nat) (hf : H.fits) (w : World) (hS : CellsAt w .u16 sa H.starts) (hB : CellsAt w .u8 ba H.beds) :
    Calls Try.prog 8 #[.agg (H.cells sa ba sc bc)] w fun e w' => e = .returned (.bool true) ∧ Ext w w' := by
  have HS := Lib.hid hS
  have HB := Lib.hid hB
  have HF := Lib.hid hf
  obtain ⟨r, hr⟩ : ∃ r, H.rul = r := ⟨_, rfl⟩
  have HR := Lib.hid hr
  clear hS hB hf
  unfold Hnd.cells
  go_enter Try.func8, Try.ntmps8
  go_upto_region 1 with fail
  generalize hW0 : World.alloc w _ = w0
  have hx0 : Ext w w0 := by rw [← hW0]; exact (Ext.refl w).alloc _
  have hb0 : Blk w0 w.heap.size #[.slice sa H.starts.length sc, .int .u8 H.gates, .bool H.equal, .int .u8 H.rounds, .int .u8 H.first, .slice ba H.beds.length bc] := by rw [← hW0]; exact Blk.new w _ _
  have hru := fun W (hx : Ext w0 W) => hand_rules H sa ba sc bc HF.out W (HS.out.ext (hx0.trans hx))
  rw [hr] at hru
  have HRu := Lib.hid hru
  have HTa := Lib.hid (fun W (hx : Ext w0 W) => hand_tale H sa ba sc bc HF.out W (HS.out.ext (hx0.trans hx)) (HB.out.ext (hx0.trans hx)))
  have z0 := hb0.cell 0 (v := .slice sa H.starts.length sc) rfl
  have z1 := hb0.cell 1 (v := .int .u8 H.gates) rfl
  have z2 := hb0.cell 2 (v := .bool H.equal) rfl
  have z3 := hb0.cell 3 (v := .int .u8 H.rounds) rfl
  have z4 := hb0.cell 4 (v := .int .u8 H.first) rfl
  have z5 := hb0.cell 5 (v := .slice ba H.beds.length bc) rfl
  have hwl := hb0.lt
  have hwn : ¬ (w0.heap.size ≤ w.heap.size) := by omega
  have HX0 := Lib.hid hx0
  clear hW0 hb0 hru hr hx0
  refine wp_region_calls (by kernel_rfl) [.no, .of (RulS r) (rulW r) (rulW_shape r), .no, .of TalS talW talW_shape, .ptr, .ptr, .any, .any] w0.heap.size (fun c => max c.1.2.heap.size c.2.2.heap.size)
    (fun (c : (Nat × World) × (Nat × World)) L u => [bif L 1 then Res.snap c.1 else Res.none, bif L 1 then Res.pure (Ext w0 c.1.2 ∧ w0.heap.size ≤ c.1.1 ∧ RulV r (u 1) c.1.1 c.1.2) else Res.none, bif L 3 then Res.snap c.2 else Res.none, bif L 3 then Res.pure (Ext w0 c.2.2 ∧ w0.heap.size ≤ c.2.1 ∧ TalV H (u 3) c.2.1 c.2.2) else Res.none,
      bif L 4 then Res.blk (ptrAt (u 4)) (bif L 6 then #[aggAt 0 (u 1), aggAt 1 (u 1), aggAt 2 (u 1), aggAt 3 (u 1)] else #[.slice none 0 0, .int .i64 0, .int .i64 0, .bool false]) else Res.none, bif L 5 then Res.blk (ptrAt (u 5)) (bif L 7 then #[aggAt 0 (u 3), aggAt 1 (u 3), aggAt 2 (u 3), aggAt 3 (u 3), aggAt 4 (u 3), aggAt 5 (u 3), aggAt 6 (u 3), aggAt 7 (u 3)] else #[.slice none 0 0, .slice none 0 0, .slice none 0 0, .slice none 0 0, .slice none 0 0, .slice none 0 0, .int .i64 0, .bool false]) else Res.none])
    ((0, w0), (0, w0)) (by kernel_rfl) (Nat.le_of_ble_eq_true rfl) (fun c L L' u hh => by simp only [hh 1 rfl, hh 3 rfl, hh 4 rfl, hh 5 rfl, hh 6 rfl, hh 7 rfl]) (by simp) (fun _ => Frm.nones _ 6 w0) ?_
  intro T hT hne u hu
  obtain ⟨a1, c1, u1⟩ : RulS r (u 1) := hu 1 rfl
  obtain ⟨a30, a31, a32, a33, a34, a35, n30, n31, n32, n33, n34, n35, c30, c31, c32, c33, c34, c35, gr3, ov3, u3⟩ : TalS (u 3) := hu 3 rfl
  obtain ⟨k4, u4⟩ : ∃ k, u 4 = .pointer (some ⟨k, 0, none⟩) := hu 4 rfl
  obtain ⟨k5, u5⟩ : ∃ k, u 5 = .pointer (some ⟨k, 0, none⟩) := hu 5 rfl
  clear hu
  refine lx_next 1 (by rfl) (by decide) ?_
  dsimp only [List.take, List.drop]
  repeat (go_big_quiet_step (fail))
  refine wpQuiet_nil ?_
  refine lx_loud (by rfl) (by kernel_rfl) ?_ (fun K hK => ?_)
  · intro L w3 hL hd hcl hC hs
    obtain ⟨x, rfl⟩ := hC
    obtain ⟨c, hmc, hs⟩ := hs
    have hzs := x.size
    have h6 := hcl.off hL 40 6 (by kernel_rfl)
    simp only [hL, h6, cond_false] at hs
    have hX : Ext w0 x.world := Chg.to_ext (Ext.refl w0) x.chg (by rintro i ⟨_, h⟩; exact h)
    go_wp2_with fail
    refine (HRu.out _ hX).mono ?_
    rintro e w' ⟨a, cc', rfl, hO, hC, hx⟩
    have hsz' := hx.size
    go_wp2
    exact lik_call x (Nat.le_refl _) ⟨_, _, rfl⟩ hs 0 1 (by decide) rfl rfl hx ((x.world.heap.size, w'), c.2) (by show max w'.heap.size c.2.2.heap.size ≤ w'.heap.size; have hmc2 : max c.1.2.heap.size c.2.2.heap.size ≤ x.world.heap.size := hmc; omega) (φ := Ext w0 w' ∧ w0.heap.size ≤ x.world.heap.size ∧ RulV r _ x.world.heap.size w') ⟨hX.trans hx, hzs, ⟨_, _, rfl, hO⟩⟩ (by first | (simp [upd, updv, h6, hL]; done) | (simp [upd, updv, h6, hL]; rfl))
  rw [u1]
  go_simp
  with_reducible refine hK _ ?_
  clear hK K
  refine lx_next 1 (by rfl) (by decide) ?_
  dsimp only [List.take, List.drop]
  repeat (go_big_quiet_step (fail))
  refine wpQuiet_nil ?_
  refine lx_loud (by rfl) (by kernel_rfl) ?_ (fun K hK => ?_)
  · intro L w3 hL hd hcl hC hs
    obtain ⟨x, rfl⟩ := hC
    obtain ⟨c, hmc, hs⟩ := hs
    have hzs := x.size
    have h7 := hcl.off hL 40 7 (by kernel_rfl)
    simp only [hL, h7, cond_false] at hs
    have hX : Ext w0 x.world := Chg.to_ext (Ext.refl w0) x.chg (by rintro i ⟨_, h⟩; exact h)
    go_wp2_with fail
    refine (HTa.out _ hX).mono ?_
    rintro e w' ⟨l, us, g, E, A, vv, lv, tv, iv, ev, av, rfl, hP, hx⟩
    have hsz' := hx.size
    have hV : TalV H (.agg #[vv, lv, tv, iv, ev, av, .int .i64 g.round, .bool g.over]) x.world.heap.size w' := ⟨l, us, g, E, A, vv, lv, tv, iv, ev, av, rfl, hP⟩
    have hsh := hV.shape
    have HV' := Lib.hid hV
    have HSh := Lib.hid hsh
    clear hV hsh hP
    go_wp2
    exact lik_call x (Nat.le_refl _) HSh.out hs 2 3 (by decide) rfl rfl hx (c.1, (x.world.heap.size, w')) (by show max c.1.2.heap.size w'.heap.size ≤ w'.heap.size; have hmc2 : max c.1.2.heap.size c.2.2.heap.size ≤ x.world.heap.size := hmc; omega) (φ := Ext w0 w' ∧ w0.heap.size ≤ x.world.heap.size ∧ TalV H _ x.world.heap.size w') ⟨hX.trans hx, hzs, HV'.out⟩ (by first | (simp [upd, updv, h7, hL]; done) | (simp [upd, updv, h7, hL]; rfl))
  rw [u3]
  go_simp
  with_reducible refine hK _ ?_
  clear hK K
  refine lx_loud (by rfl) (by kernel_rfl) ?_ (fun K hK => ?_)
  · intro L w3 hL hd hcl hC hs
    obtain ⟨x, rfl⟩ := hC
    obtain ⟨c, hmc, hs⟩ := hs
    have hzs := x.size
    have h6 := hcl.off hL 40 6 (by kernel_rfl)
    simp only [hL, h6, cond_false] at hs
    go_wp2
    exact lik_set x (Nat.le_refl _) ⟨_, rfl⟩ hs 4 (r' := Res.blk x.world.heap.size #[.slice none 0 0, .int .i64 0, .int .i64 0, .bool false]) rfl (((Ext.refl x.world).alloc _).chg _) (Blk.new _ _ _) (fun k hk => .inr (by rw [show k = x.world.heap.size from hk]; simp)) c hmc (by first | (simp [upd, updv, h6, hL]; done) | (simp [upd, updv, h6, hL]; rfl))
  rw [u4]
  go_simp
  with_reducible refine hK _ ?_
  clear hK K
  refine lx_loud (by rfl) (by kernel_rfl) ?_ (fun K hK => ?_)
  · intro L w3 hL hd hcl hC hs
    obtain ⟨x, rfl⟩ := hC
    obtain ⟨c, hmc, hs⟩ := hs
    have hzs := x.size
    have h7 := hcl.off hL 40 7 (by kernel_rfl)
    simp only [hL, h7, cond_false] at hs
    go_wp2
    exact lik_set x (Nat.le_refl _) ⟨_, rfl⟩ hs 5 (r' := Res.blk x.world.heap.size #[.slice none 0 0, .slice none 0 0, .slice none 0 0, .slice none 0 0, .slice none 0 0, .slice none 0 0, .int .i64 0, .bool false]) rfl (((Ext.refl x.world).alloc _).chg _) (Blk.new _ _ _) (fun k hk => .inr (by rw [show k = x.world.heap.size from hk]; simp)) c hmc (by first | (simp [upd, updv, h7, hL]; done) | (simp [upd, updv, h7, hL]; rfl))
  rw [u5]
  go_simp
  with_reducible refine hK _ ?_
  clear hK K
  refine lx_loud (by rfl) (by kernel_rfl) ?_ (fun K hK => ?_)
  · intro L w3 hL hd hcl hC hs
    obtain ⟨x, rfl⟩ := hC
    obtain ⟨c, hmc, hs⟩ := hs
    have hzs := x.size
    have h4 := hd 4 (by kernel_rfl)
    have h1 := hd 1 (by kernel_rfl)
    simp only [hL, h4, h1, cond_true, cond_false] at hs
    rw [u4] at hs
    have hb : Blk x.world k4 #[.slice none 0 0, .int .i64 0, .int .i64 0, .bool false] := hs.get 4 rfl
    have hlt := hb.lt
    have q0 := hb.cell 0 (v := .slice none 0 0) rfl
    have f0 := hb.frozen 0
    have q1 := hb.cell 1 (v := .int .i64 0) rfl
    have f1 := hb.frozen 1
    have q2 := hb.cell 2 (v := .int .i64 0) rfl
    have f2 := hb.frozen 2
    have q3 := hb.cell 3 (v := .bool false) rfl
    have f3 := hb.frozen 3
    go_wp2
    exact lik_set x (Nat.le_refl _) trivial hs 4 rfl (four_chg (fun k => k = k4) _ rfl _ _ _ _ ) (r' := Res.blk k4 #[.slice a1 r.counts.length c1, .int .i64 r.first, .int .i64 r.rounds, .bool r.equal]) (four_set hb _ _ _ _ ) (fun _ hk => .inl hk) c hmc (by first | (simp [upd, updv, h4, h1, hL, u4, u1, aggAt, ptrAt]; done) | (simp [upd, updv, h4, h1, hL, u4, u1, aggAt, ptrAt]; rfl))
  go_simp
  with_reducible refine hK _ ?_
  clear hK K
  refine lx_loud (by rfl) (by kernel_rfl) ?_ (fun K hK => ?_)
  · intro L w3 hL hd hcl hC hs
    obtain ⟨x, rfl⟩ := hC
    obtain ⟨c, hmc, hs⟩ := hs
    have hzs := x.size
    have h5 := hd 5 (by kernel_rfl)
    have h3 := hd 3 (by kernel_rfl)
    simp only [hL, h5, h3, cond_true, cond_false] at hs
    rw [u5] at hs
    have hb : Blk x.world k5 #[.slice none 0 0, .slice none 0 0, .slice none 0 0, .slice none 0 0, .slice none 0 0, .slice none 0 0, .int .i64 0, .bool false] := hs.get 5 rfl
    have hlt := hb.lt
    have q0 := hb.cell 0 (v := .slice none 0 0) rfl
    have f0 := hb.frozen 0
    have q1 := hb.cell 1 (v := .slice none 0 0) rfl
    have f1 := hb.frozen 1
    have q2 := hb.cell 2 (v := .slice none 0 0) rfl
    have f2 := hb.frozen 2
    have q3 := hb.cell 3 (v := .slice none 0 0) rfl
    have f3 := hb.frozen 3
    have q4 := hb.cell 4 (v := .slice none 0 0) rfl
    have f4 := hb.frozen 4
    have q5 := hb.cell 5 (v := .slice none 0 0) rfl
    have f5 := hb.frozen 5
    have q6 := hb.cell 6 (v := .int .i64 0) rfl
    have f6 := hb.frozen 6
    have q7 := hb.cell 7 (v := .bool false) rfl
    have f7 := hb.frozen 7
    go_wp2
    exact lik_set x (Nat.le_refl _) trivial hs 5 rfl (eight_chg (fun k => k = k5) _ rfl _ _ _ _ _ _ _ _ ) (r' := Res.blk k5 #[.slice a30 n30 c30, .slice a31 n31 c31, .slice a32 n32 c32, .slice a33 n33 c33, .slice a34 n34 c34, .slice a35 n35 c35, .int .i64 gr3, .bool ov3]) (eight_set hb _ _ _ _ _ _ _ _ ) (fun _ hk => .inl hk) c hmc (by first | (simp [upd, updv, h5, h3, hL, u5, u3, aggAt, ptrAt]; done) | (simp [upd, updv, h5, h3, hL, u5, u3, aggAt, ptrAt]; rfl))
  go_simp
  with_reducible refine hK _ ?_
  clear hK K
  refine lx_nil ?_
  intro x hs
  obtain ⟨c, hmc, hs⟩ := hs
  rw [u1, u3, u4, u5] at hs
  have hX : Ext w0 x.world := Chg.to_ext (Ext.refl w0) x.chg (by rintro i ⟨_, h⟩; exact h)
  have hp1 : Ext w0 c.1.2 ∧ w0.heap.size ≤ c.1.1 ∧ RulV r (.agg #[.slice a1 r.counts.length c1, .int .i64 r.first, .int .i64 r.rounds, .bool r.equal]) c.1.1 c.1.2 := hs.get 1 rfl
  have hp3 : Ext w0 c.2.2 ∧ w0.heap.size ≤ c.2.1 ∧ TalV H (.agg #[.slice a30 n30 c30, .slice a31 n31 c31, .slice a32 n32 c32, .slice a33 n33 c33, .slice a34 n34 c34, .slice a35 n35 c35, .int .i64 gr3, .bool ov3]) c.2.1 c.2.2 := hs.get 3 rfl
  have hmc' : max c.1.2.heap.size c.2.2.heap.size ≤ x.world.heap.size := hmc
  have hr1 := hp1.2.2.chg (snap_chg (hs.get 0 rfl) hp1.1 hX (by omega)) (fun k hk => hk.2)
  have ht1 := hp3.2.2.chg (snap_chg (hs.get 2 rfl) hp3.1 hX (by omega)) (fun k hk => hk.2)
  have hb4 : Blk x.world k4 #[.slice a1 r.counts.length c1, .int .i64 r.first, .int .i64 r.rounds, .bool r.equal] := hs.get 4 rfl
  have hb5 : Blk x.world k5 #[.slice a30 n30 c30, .slice a31 n31 c31, .slice a32 n32 c32, .slice a33 n33 c33, .slice a34 n34 c34, .slice a35 n35 c35, .int .i64 gr3, .bool ov3] := hs.get 5 rfl
  have hs1l := hp1.2.1
  have hs3l := hp3.2.1
  generalize c.1.1 = s1 at *
  generalize c.2.1 = s3 at *
  clear hs hp1 hp3 hmc hmc' hT hne u1 u3 u4 u5
  generalize x.world = w1 at *
  clear x z0 z1 z2 z3 z4 z5 hwn
  obtain ⟨hCr, hCn⟩ := hr1.reads
  obtain ⟨l, g, E, A, hT⟩ := ht1.reads
  have HT := Lib.hid hT
  have HCr := Lib.hid hCr
  have HCn := Lib.hid hCn
  have HX1 := Lib.hid (HX0.out.trans hX)
  have HB4 := Lib.hid hb4
  have HB5 := Lib.hid hb5
  have hHr : H.counts = r.counts := by rw [← HR.out]; rfl
  have m0 := hb4.cell 0 (v := .slice a1 r.counts.length c1) rfl
  have m1 := hb4.cell 1 (v := .int .i64 r.first) rfl
  have m2 := hb4.cell 2 (v := .int .i64 r.rounds) rfl
  have m3 := hb4.cell 3 (v := .bool r.equal) rfl
  have d0 := hb5.cell 0 (v := .slice a30 n30 c30) rfl
  have HHr := Lib.hid hHr
  have hk4l := hb4.lt
  have hk5l := hb5.lt
  clear hCr hCn hT hr1 ht1 hX hb4 hb5 hHr hs1l hs3l HRu HTa hwl
  by_cases hn0 : r.counts.length = 0
  · have hck := leg_Check r a1 c1 w1 HCr.out (by omega)
    have herr : r.err = 2 := by
      have : r.ok = false := by
        cases hok : r.ok
        · rfl
        · have := (Rul.ok_length hok).1; omega
      simp [Rul.err, this]
    rw [herr, hn0] at hck
    rw [hn0] at m0
    have HCk := Lib.hid hck
    clear hck herr
    go_wp2_with fail
    refine HCk.out.mono ?_
    rintro e w2 ⟨rfl, hx2⟩
    go_wp2_with fail
    refine (law_known _).mono ?_
    rintro e w3 ⟨rfl, hx3⟩
    go_wp2
    go_ret
    exact ⟨rfl, (HX1.out.trans hx2).trans hx3⟩
  have b0 : ((r.counts.length : Int) == 0) = false := by simp; intro h; exact hn0 (by simp [h])
  have hI := HT.out.tale (by rw [HHr.out]; omega)
  have hok := Hnd.rul_ok HF.out (by rw [HHr.out]; omega)
  rw [HR.out] at hI hok
  have HI := Lib.hid hI
  have HOK := Lib.hid hok
  have hlen := HT.out.len
  have hsh := HT.out.short
  have hn60 : n30 ≤ 60 := by omega
  have HLEN := Lib.hid hlen
  have hrl := Rul.ok_length hok
  have hrl8 := hrl.2
  have hnew : newE r l.length = 0 := newE_ok hok (by omega)
  have hps : playS r l = (g, 0, 0) := by
    unfold playS
    rw [if_neg (by simpa using hnew)]
    exact hI.play
  have HPS := Lib.hid hps
  have HFI := Lib.hid (fun v (hv : v ∈ l) => (hI.fits v hv).1)
  have hlb : ∀ v ∈ l, v.beds.length ≤ 1000000 := fun v hv => by have := (hI.fits v hv).2.1.2; omega
  have HRu := Lib.hid (fun W (hx : Ext w1 W) => law_rules r a1 c1 W (HCr.out.ext hx) (by omega) HCn.out)
  have hv0 := fun W (hx : Ext w1 W) => law_visits l a30 c30 W (HT.out.vis.ext hx) (by omega) hlb
  rw [← hlen] at hv0
  have HV0 := Lib.hid hv0
  have hm4n : ¬ (w1.heap.size ≤ k4) := by omega
  have hm5n : ¬ (w1.heap.size ≤ k5) := by omega
  clear hI hok hlen hsh hrl hnew hps hlb hv0
  go_upto_region 4 with fail
  refine wp_region_calls (by kernel_rfl) [.no, .of (RulS r) (rulW r) (rulW_shape r), .no, .no, .slc l.length, .of (PlaS 0 0) (plaW 0 0) (plaW_shape 0 0), .no, .no, .no, .no, .ptr, .any] w1.heap.size (fun c => max c.1.2.heap.size (max c.2.1.2.heap.size c.2.2.2.heap.size))
    (fun (c : (Nat × World) × (Nat × World) × (Nat × World)) L u => [bif L 1 then Res.snap c.1 else Res.none, bif L 1 then Res.pure (Ext w1 c.1.2 ∧ w1.heap.size ≤ c.1.1 ∧ RulV r (u 1) c.1.1 c.1.2) else Res.none, bif L 4 then Res.snap c.2.1 else Res.none, bif L 4 then Res.pure (Ext w1 c.2.1.2 ∧ w1.heap.size ≤ c.2.1.1 ∧ VisV l (u 4) c.2.1.1 c.2.1.2) else Res.none,
      bif L 5 then Res.snap c.2.2 else Res.none, bif L 5 then Res.pure (Ext w1 c.2.2.2 ∧ w1.heap.size ≤ c.2.2.1 ∧ PlaV (g, 0, 0) (u 5) c.2.2.1 c.2.2.2) else Res.none,
      bif L 10 then Res.blk (ptrAt (u 10)) (bif L 11 then #[aggAt 0 (aggAt 0 (u 5)), aggAt 1 (aggAt 0 (u 5)), aggAt 2 (aggAt 0 (u 5)), aggAt 3 (aggAt 0 (u 5)), aggAt 4 (aggAt 0 (u 5)), aggAt 5 (aggAt 0 (u 5)), aggAt 6 (aggAt 0 (u 5))] else #[.slice none 0 0, .slice none 0 0, .slice none 0 0, .int .i64 0, .int .i64 0, .bool false, .slice none 0 0]) else Res.none])
    ((0, w1), (0, w1), (0, w1)) (by kernel_rfl) (Nat.le_of_ble_eq_true rfl) (fun c L L' u hh => by simp only [hh 1 rfl, hh 4 rfl, hh 5 rfl, hh 10 rfl, hh 11 rfl]) (by simp) (fun _ => Frm.nones _ 7 w1) ?_
  intro T hT hne u hu
  obtain ⟨a21, c21, u1⟩ : RulS r (u 1) := hu 1 rfl
  obtain ⟨a24, c24, u4⟩ : ∃ a c, u 4 = .slice a l.length c := hu 4 rfl
  obtain ⟨pa0, pa1, pa2, pa3, pn0, pn1, pn2, pn3, pc0, pc1, pc2, pc3, pnx, prd, pov, u5⟩ : PlaS 0 0 (u 5) := hu 5 rfl
  obtain ⟨pk, u10⟩ : ∃ k, u 10 = .pointer (some ⟨k, 0, none⟩) := hu 10 rfl
  clear hu
  refine lx_next 1 (by rfl) (by decide) ?_
  dsimp only [List.take, List.drop]
  repeat (go_big_quiet_step (fail))
  refine wpQuiet_nil ?_
  refine lx_loud (by rfl) (by kernel_rfl) ?_ (fun K hK => ?_)
  · intro L w3 hL hd hcl hC hs
    obtain ⟨x, rfl⟩ := hC
    obtain ⟨c, hmc, hs⟩ := hs
    have hzs := x.size
    have h5 := hcl.off hL 40 5 (by kernel_rfl)
    have h11 := hcl.off hL 40 11 (by kernel_rfl)
    simp only [hL, h5, h11, cond_false] at hs
    have hX : Ext w1 x.world := Chg.to_ext (Ext.refl w1) x.chg (by rintro i ⟨_, h⟩; exact h)
    go_wp2_with fail
    refine (HRu.out _ hX).mono ?_
    rintro e w' ⟨a, cc', rfl, hO, hC, hx⟩
    have hsz' := hx.size
    have hmc2 : max c.1.2.heap.size (max c.2.1.2.heap.size c.2.2.2.heap.size) ≤ x.world.heap.size := hmc
    go_wp2
    exact lik_call x (Nat.le_refl _) ⟨_, _, rfl⟩ hs 0 1 (by decide) rfl rfl hx ((x.world.heap.size, w'), c.2) (by show max w'.heap.size (max c.2.1.2.heap.size c.2.2.2.heap.size) ≤ w'.heap.size; omega) (φ := Ext w1 w' ∧ w1.heap.size ≤ x.world.heap.size ∧ RulV r _ x.world.heap.size w') ⟨hX.trans hx, hzs, ⟨_, _, rfl, hO⟩⟩ (by first | (simp [upd, updv, h5, h11, hL]; done) | (simp [upd, updv, h5, h11, hL]; rfl))
  rw [u1]
  go_simp
  with_reducible refine hK _ ?_
  clear hK K
  refine lx_next 2 (by rfl) (by decide) ?_
  dsimp only [List.take, List.drop]
  repeat (go_big_quiet_step (fail))
  refine wpQuiet_nil ?_
  refine lx_loud (by rfl) (by kernel_rfl) ?_ (fun K hK => ?_)
  · intro L w3 hL hd hcl hC hs
    obtain ⟨x, rfl⟩ := hC
    obtain ⟨c, hmc, hs⟩ := hs
    have hzs := x.size
    have h5 := hcl.off hL 40 5 (by kernel_rfl)
    have h11 := hcl.off hL 40 11 (by kernel_rfl)
    simp only [hL, h5, h11, cond_false] at hs
    have hX : Ext w1 x.world := Chg.to_ext (Ext.refl w1) x.chg (by rintro i ⟨_, h⟩; exact h)
    go_wp2_with fail
    refine (HV0.out _ hX).mono ?_
    rintro e w' ⟨v, us, rfl, hO, hx⟩
    have hsz' := hx.size
    have hmc2 : max c.1.2.heap.size (max c.2.1.2.heap.size c.2.2.2.heap.size) ≤ x.world.heap.size := hmc
    have HO := Lib.hid hO
    have hsh := own_shape hO.outer
    have HSh := Lib.hid hsh
    clear hO hsh
    go_wp2
    exact lik_call x (Nat.le_refl _) HSh.out hs 2 3 (by decide) rfl rfl hx (c.1, (x.world.heap.size, w'), c.2.2) (by show max c.1.2.heap.size (max w'.heap.size c.2.2.2.heap.size) ≤ w'.heap.size; omega) (φ := Ext w1 w' ∧ w1.heap.size ≤ x.world.heap.size ∧ VisV l _ x.world.heap.size w') ⟨hX.trans hx, hzs, ⟨_, HO.out⟩⟩ (by first | (simp [upd, updv, h5, h11, hL]; done) | (simp [upd, updv, h5, h11, hL]; rfl))
  rw [u4]
  go_simp
  with_reducible refine hK _ ?_
  clear hK K
  refine lx_loud (by rfl) (by kernel_rfl) ?_ (fun K hK => ?_)
  · intro L w3 hL hd hcl hC hs
    obtain ⟨x, rfl⟩ := hC
    obtain ⟨c, hmc, hs⟩ := hs
    have hzs := x.size
    have h11 := hcl.off hL 40 11 (by kernel_rfl)
    have h1 := hd 1 (by kernel_rfl)
    have h4 := hd 4 (by kernel_rfl)
    simp only [hL, h11, h1, h4, cond_true, cond_false] at hs
    rw [u1, u4] at hs
    have hX : Ext w1 x.world := Chg.to_ext (Ext.refl w1) x.chg (by rintro i ⟨_, h⟩; exact h)
    have hmc2 : max c.1.2.heap.size (max c.2.1.2.heap.size c.2.2.2.heap.size) ≤ x.world.heap.size := hmc
    have hp1 : Ext w1 c.1.2 ∧ w1.heap.size ≤ c.1.1 ∧ RulV r (.agg #[.slice a21 r.counts.length c21, .int .i64 r.first, .int .i64 r.rounds, .bool r.equal]) c.1.1 c.1.2 := hs.get 1 rfl
    have hp4 : Ext w1 c.2.1.2 ∧ w1.heap.size ≤ c.2.1.1 ∧ VisV l (.slice a24 l.length c24) c.2.1.1 c.2.1.2 := hs.get 3 rfl
    have hr1 := (hp1.2.2.chg (snap_chg (hs.get 0 rfl) hp1.1 hX (by omega)) (fun k hk => hk.2)).reads.1
    have hv4 := hp4.2.2.chg (snap_chg (hs.get 2 rfl) hp4.1 hX (by omega)) (fun k hk => hk.2)
    obtain ⟨us4, hO4⟩ := hv4
    obtain ⟨va4, vc4, e4, hvis4⟩ := hO4.vis
    have hva : va4 = a24 := by injection e4 with e5 _ _; exact e5.symm
    subst hva
    have HJ5 := Lib.hid (leg_Play r a21 c21 l va4 c24 x.world hr1 (by omega) hvis4 HFI.out (by have := HLEN.out; omega) _ HPS.out)
    have HS5 := Lib.hid hs
    clear hp1 hp4 hr1 hO4 e4 hvis4 hs
    go_wp2_with fail
    refine HJ5.out.mono ?_
    rintro e w' ⟨v, rfl, hSt, hx⟩
    have hsz' := hx.size
    have hV : PlaV (g, 0, 0) (.tuple #[v, .int .i64 0, .int .i64 0]) x.world.heap.size w' := ⟨v, rfl, hSt⟩
    have hsh := hV.shape
    have HV' := Lib.hid hV
    have HSh := Lib.hid hsh
    clear hV hsh hSt
    go_wp2
    exact lik_call x (Nat.le_refl _) HSh.out HS5.out 4 5 (by decide) rfl rfl hx (c.1, c.2.1, (x.world.heap.size, w')) (by show max c.1.2.heap.size (max c.2.1.2.heap.size w'.heap.size) ≤ w'.heap.size; omega) (φ := Ext w1 w' ∧ w1.heap.size ≤ x.world.heap.size ∧ PlaV (g, 0, 0) _ x.world.heap.size w') ⟨hX.trans hx, hzs, HV'.out⟩ (by first | (simp [upd, updv, h11, h1, h4, hL, u1, u4]; done) | (simp [upd, updv, h11, h1, h4, hL, u1, u4]; rfl))
  rw [u5]
  go_simp
  with_reducible refine hK _ ?_
  clear hK K
  refine lx_next 4 (by rfl) (by decide) ?_
  dsimp only [List.take, List.drop]
  repeat (go_big_quiet_step (fail))
  refine wpQuiet_nil ?_
  refine lx_loud (by rfl) (by kernel_rfl) ?_ (fun K hK => ?_)
  · intro L w3 hL hd hcl hC hs
    obtain ⟨x, rfl⟩ := hC
    obtain ⟨c, hmc, hs⟩ := hs
    have hzs := x.size
    have h11 := hcl.off hL 40 11 (by kernel_rfl)
    simp only [hL, h11, cond_false] at hs
    go_wp2
    exact lik_set x (Nat.le_refl _) ⟨_, rfl⟩ hs 6 (r' := Res.blk x.world.heap.size #[.slice none 0 0, .slice none 0 0, .slice none 0 0, .int .i64 0, .int .i64 0, .bool false, .slice none 0 0]) rfl (((Ext.refl x.world).alloc _).chg _) (Blk.new _ _ _) (fun k hk => .inr (by rw [show k = x.world.heap.size from hk]; simp)) c hmc (by first | (simp [upd, updv, h11, hL]; done) | (simp [upd, updv, h11, hL]; rfl))
  rw [u10]
  go_simp
  with_reducible refine hK _ ?_
  clear hK K
  refine lx_loud (by rfl) (by kernel_rfl) ?_ (fun K hK => ?_)
  · intro L w3 hL hd hcl hC hs
    obtain ⟨x, rfl⟩ := hC
    obtain ⟨c, hmc, hs⟩ := hs
    have hzs := x.size
    have h5 := hcl.on 40 (hd 7 (by kernel_rfl)) (j := 7) (i := 5) (by kernel_rfl)
    have h10 := hd 10 (by kernel_rfl)
    simp only [hL, h10, cond_true, cond_false, h5] at hs
    rw [u10] at hs
    have hb : Blk x.world pk #[.slice none 0 0, .slice none 0 0, .slice none 0 0, .int .i64 0, .int .i64 0, .bool false, .slice none 0 0] := hs.get 6 rfl
    have hlt := hb.lt
    have q0 := hb.cell 0 (v := .slice none 0 0) rfl
    have f0 := hb.frozen 0
    have q1 := hb.cell 1 (v := .slice none 0 0) rfl
    have f1 := hb.frozen 1
    have q2 := hb.cell 2 (v := .slice none 0 0) rfl
    have f2 := hb.frozen 2
    have q3 := hb.cell 3 (v := .int .i64 0) rfl
    have f3 := hb.frozen 3
    have q4 := hb.cell 4 (v := .int .i64 0) rfl
    have f4 := hb.frozen 4
    have q5 := hb.cell 5 (v := .bool false) rfl
    have f5 := hb.frozen 5
    have q6 := hb.cell 6 (v := .slice none 0 0) rfl
    have f6 := hb.frozen 6
    go_wp2
    exact lik_set x (Nat.le_refl _) trivial hs 6 rfl (seven_chg (fun k => k = pk) _ rfl _ _ _ _ _ _ _) (r' := Res.blk pk #[.slice pa0 pn0 pc0, .slice pa1 pn1 pc1, .slice pa2 pn2 pc2, .int .i64 pnx, .int .i64 prd, .bool pov, .slice pa3 pn3 pc3]) (seven_set hb _ _ _ _ _ _ _) (fun _ hk => .inl hk) c hmc (by first | (simp [upd, updv, h10, hL, u10, u5, h5, aggAt, ptrAt]; done) | (simp [upd, updv, h10, hL, u10, u5, h5, aggAt, ptrAt]; rfl))
  go_simp
  with_reducible refine hK _ ?_
  clear hK K
  refine lx_next 2 (by rfl) (by decide) ?_
  dsimp only [List.take, List.drop]
  repeat (go_big_quiet_step (fail))
  refine wpQuiet_nil ?_
  refine lx_nil ?_
  intro x hs
  obtain ⟨c, hmc, hs⟩ := hs
  rw [u5, u10] at hs
  have hX : Ext w1 x.world := Chg.to_ext (Ext.refl w1) x.chg (by rintro i ⟨_, h⟩; exact h)
  have hmc2 : max c.1.2.heap.size (max c.2.1.2.heap.size c.2.2.2.heap.size) ≤ x.world.heap.size := hmc
  have hp5 : Ext w1 c.2.2.2 ∧ w1.heap.size ≤ c.2.2.1 ∧ PlaV (g, 0, 0) (.tuple #[.agg #[.slice pa0 pn0 pc0, .slice pa1 pn1 pc1, .slice pa2 pn2 pc2, .int .i64 pnx, .int .i64 prd, .bool pov, .slice pa3 pn3 pc3], .int .i64 0, .int .i64 0]) c.2.2.1 c.2.2.2 := hs.get 5 rfl
  have hj5 := (hp5.2.2.chg (snap_chg (hs.get 4 rfl) hp5.1 hX (by omega)) (fun k hk => hk.2)).reads
  have hbs : Blk x.world pk #[.slice pa0 pn0 pc0, .slice pa1 pn1 pc1, .slice pa2 pn2 pc2, .int .i64 pnx, .int .i64 prd, .bool pov, .slice pa3 pn3 pc3] := hs.get 6 rfl
  clear hs hmc hmc2 hp5 hT hne u1 u4 u5 u10
  generalize x.world = w2 at *
  clear x m1 m2 m3 d0 hm4n hm5n
  obtain ⟨⟨hp0, hC0⟩, ⟨hp1, hC1⟩, ⟨hp2, hC2⟩, ⟨hp3, hC3⟩, hpnx, hprd, hpov⟩ := hj5
  have e0 : pn0 = r.counts.length := hp0.trans HI.out.ok.left
  have e1 : pn1 = r.counts.length := hp1.trans HI.out.ok.darts
  have e2 : pn2 = r.counts.length := hp2.trans HI.out.ok.inn
  have e3 : prd = gr3 := hprd.trans HT.out.round.symm
  have e4 : pov = ov3 := hpov.trans HT.out.over.symm
  subst e0
  subst e1
  subst e2
  subst e3
  subst e4
  have hwt : pov = true → pnx = -1 ∧ 0 < pn3 := fun h => by
    have ho : g.over = true := by rw [← HT.out.over]; exact h
    exact ⟨by rw [hpnx]; exact (HI.out.shut ho).1, by rw [hp3]; exact wins_some HOK.out HI.out ho⟩
  have hwf : pov = false → (pnx == -1) = false ∧ pn3 = 0 := fun h => by
    have ho : g.over = false := by rw [← HT.out.over]; exact h
    have hl := Rul.ok_length HOK.out
    have hnn := HI.out.next ho
    refine ⟨?_, by rw [hp3, HI.out.ok.none ho]; rfl⟩
    rw [hpnx, hnn]
    have := Int.emod_nonneg (r.first + (l.length : Int)) (by omega : (r.counts.length : Int) ≠ 0)
    simp
    omega
  have HWT := Lib.hid hwt
  have HWF := Lib.hid hwf
  have HP3 := Lib.hid hp3
  have HC0 := Lib.hid hC0
  have HC1 := Lib.hid hC1
  have HC2 := Lib.hid hC2
  have HC3 := Lib.hid hC3
  have HBS := Lib.hid hbs
  have HX2 := Lib.hid hX
  have hb4 := HB4.out.ext hX
  have m0 := hb4.cell 0 (v := .slice a1 r.counts.length c1) rfl
  have hml := hb4.lt
  have hb5 := HB5.out.ext hX
  have d6 := hb5.cell 6 (v := .int .i64 prd) rfl
  have d7 := hb5.cell 7 (v := .bool pov) rfl
  have hl5 := hb5.lt
  have s0 := hbs.cell 0 (v := .slice pa0 r.counts.length pc0) rfl
  have s1 := hbs.cell 1 (v := .slice pa1 r.counts.length pc1) rfl
  have s2 := hbs.cell 2 (v := .slice pa2 r.counts.length pc2) rfl
  have s3 := hbs.cell 3 (v := .int .i64 pnx) rfl
  have s4 := hbs.cell 4 (v := .int .i64 prd) rfl
  have s5 := hbs.cell 5 (v := .bool pov) rfl
  have s6 := hbs.cell 6 (v := .slice pa3 pn3 pc3) rfl
  have hls := hbs.lt
  clear hp0 hp1 hp2 hp3 hpnx hprd hpov hC0 hC1 hC2 hC3 hwt hwf hbs hX hb4 hb5 hk4l hk5l
  go_upto_region 6 with fail
  go_cut [108] from 51 to 108 (fun b wx => b = .bool false ∧ wx = w2)
  case first =>
    cases pov
    · obtain ⟨q1, q2⟩ := HWF.out rfl
      subst q2
      go_wp2
      go_meet
      exact ⟨rfl, rfl⟩
    · obtain ⟨q1, q2⟩ := HWT.out rfl
      subst q1
      go_wp2
      go_meet
      exact ⟨rfl, rfl⟩
  case rest =>
    obtain ⟨rfl, rfl⟩ := hcut
    obtain ⟨w3, rfl⟩ : ∃ x, x = wc := ⟨_, rfl⟩
    have e1 : n31 = r.counts.length := HT.out.n1.trans HI.out.ok.left
    have e2 : n32 = r.counts.length := HT.out.n2.trans HI.out.ok.darts
    have e3 : n33 = r.counts.length := HT.out.n3.trans HI.out.ok.inn
    have e4 : n34 = E.length := HT.out.n4
    have e5 : n35 = E.length := HT.out.n5.trans HI.out.len
    have e6 := HLEN.out
    have e7 := HT.out.round
    have e8 := HT.out.over
    have e9 := HP3.out
    subst e1 e2 e3 e4 e5 e6 e7 e8 e9
    have hX2 := HX2.out
    have hto : ToldW ⟨k4, k5, pk, c1, c30, c31, c32, c33, c34, c35, pc0, pc1, pc2, pc3, a1, a30, a31, a32, a33, a34, a35, pa0, pa1, pa2, pa3, pnx⟩ r l g E A w3 :=
      ⟨HB4.out.ext hX2, HB5.out.ext hX2, HBS.out, HCr.out.ext hX2, HT.out.vis.ext hX2, HT.out.left.ext hX2, HT.out.darts.ext hX2, HT.out.inn.ext hX2, HT.out.ended.ext hX2, HT.out.lasts.ext hX2, HC0.out, HC1.out, HC2.out, HC3.out⟩
    have HTO := Lib.hid hto
    have HXW := Lib.hid (HX1.out.trans hX2)
    have hl60 := HT.out.short
    clear m0 d6 d7 s0 s1 s2 s3 s4 s5 s6 hto hX2 HWT HWF HB4 HB5 HBS HC0 HC1 HC2 HC3 HX1 HX2 HV0 HRu HFI HPS HCr HCn HT HLEN HP3
    have d1 : w3.cell? ⟨k5, 1, none⟩ = some (.slice a31 r.counts.length c31) := HTO.out.tal.cell 1 rfl
    have d2 : w3.cell? ⟨k5, 2, none⟩ = some (.slice a32 r.counts.length c32) := HTO.out.tal.cell 2 rfl
    have d3 : w3.cell? ⟨k5, 3, none⟩ = some (.slice a33 r.counts.length c33) := HTO.out.tal.cell 3 rfl
    have m0 : w3.cell? ⟨k4, 0, none⟩ = some (.slice a1 r.counts.length c1) := HTO.out.rul.cell 0 rfl
    have s0 : w3.cell? ⟨pk, 0, none⟩ = some (.slice pa0 r.counts.length pc0) := HTO.out.sta.cell 0 rfl
    have s1 : w3.cell? ⟨pk, 1, none⟩ = some (.slice pa1 r.counts.length pc1) := HTO.out.sta.cell 1 rfl
    have s2 : w3.cell? ⟨pk, 2, none⟩ = some (.slice pa2 r.counts.length pc2) := HTO.out.sta.cell 2 rfl
    have HCR : Hid (CntsAt w3 a1 r.counts) := Lib.hid HTO.out.cr
    have HTL : Hid (CellsAt w3 .i64 a31 g.left) := Lib.hid HTO.out.left
    have HTD : Hid (CellsAt w3 .i64 a32 g.darts) := Lib.hid HTO.out.darts
    have HTI : Hid (BoolsAt w3 a33 g.inn) := Lib.hid HTO.out.inn
    have HSL : Hid (CellsAt w3 .i64 pa0 g.left) := Lib.hid HTO.out.sleft
    have HSD : Hid (CellsAt w3 .i64 pa1 g.darts) := Lib.hid HTO.out.sdarts
    have HSI : Hid (BoolsAt w3 pa2 g.inn) := Lib.hid HTO.out.sinn
    obtain ⟨B, hB⟩ : ∃ B, B = w3.heap.size := ⟨_, rfl⟩
    have hB1 : B ≤ w3.heap.size := by omega
    have hB2 : w3.heap.size ≤ B := by omega
    have hn8 : r.counts.length ≤ 8 := by omega
    clear hB
    obtain ⟨i0, hi, hz0, hz1, hz2⟩ := info_parts info_int
    go_upto_region 8 with fail
    go_wp2_with (refine wpList_make_full _ rfl _ _ 48 rfl B 3 i0 (.int .i64 0) 1 (by kernel_rfl) hi hz0 hz1 .i64 .i64 _ _ r.counts.length rfl rfl rfl rfl (by rw [hz2]; omega) (by unfold maxLen; omega) hB1 ?_)
    intro w4 hO4 hg4
    obtain ⟨gs, hgs⟩ : ∃ gs, gs = w3.heap.size := ⟨_, rfl⟩
    rw [← hgs] at hO4 ⊢
    replace hO4 : w4.ownsRow B 3 1 (.slice (some ⟨gs, 0, none⟩) r.counts.length r.counts.length) r.counts.length ((List.replicate r.counts.length 0).map (Value.int .i64)) := by rw [← made_ints]; simpa [Value.cells] using hO4
    have hC4 : Chg (fun _ => False) w3 w4 := (grown_chg hg4).mono (fun k _ h => by cases h)
    have hX4 : Ext w3 w4 := Chg.to_ext (Ext.refl w3) hC4 (fun k h => h.elim)
    have hsz4 := hX4.size
    have hgs1 : gs < w4.heap.size := (World.ownsRow.lt hO4 gs rfl).2
    have hF4 : Frm B [Res.own B 3 1 (.slice (some ⟨gs, 0, none⟩) r.counts.length r.counts.length) r.counts.length ((List.replicate r.counts.length 0).map (Value.int .i64)), Res.none, Res.none] w4 := (Frm.nones B 3 w3).set 0 rfl hC4 (r' := Res.own B 3 1 (.slice (some ⟨gs, 0, none⟩) r.counts.length r.counts.length) r.counts.length ((List.replicate r.counts.length 0).map (Value.int .i64))) hO4 (fun k hk => .inr (by rw [← own_blk hk]; exact ⟨by omega, hgs1⟩)) hB1
    have HF4 := Lib.hid hF4
    have HX4 := Lib.hid hX4
    have hlo : B ≤ w4.heap.size := by omega
    clear hgs hO4 hg4 hX4 hC4 hF4 hi hz0 hz1 hz2
    go_upto_region 9 with fail
    refine wp_region_sep (by kernel_rfl) [.no, .box r.counts.length, .no, .box r.counts.length] B
      (fun L u => [Res.own B 3 1 (.slice (some ⟨gs, 0, none⟩) r.counts.length r.counts.length) r.counts.length ((List.replicate r.counts.length 0).map (Value.int .i64)), bif L 1 then Res.own B 3 1 (u 1) r.counts.length ((List.replicate r.counts.length 0).map (Value.int .i64)) else Res.none, bif L 3 then Res.own B 4 1 (u 3) r.counts.length ((List.replicate r.counts.length false).map Value.bool) else Res.none])
      (by kernel_rfl) (Nat.le_of_ble_eq_true rfl) (fun L L' u hh => by simp only [hh 1 rfl, hh 3 rfl]) (fun _ => HF4.out) ?_
    intro T hT hne u hu
    obtain ⟨gl, u1⟩ : ∃ k, u 1 = .slice (some ⟨k, 0, none⟩) r.counts.length r.counts.length := hu 1 rfl
    obtain ⟨gi, u3⟩ : ∃ k, u 3 = .slice (some ⟨k, 0, none⟩) r.counts.length r.counts.length := hu 3 rfl
    clear hu
    refine lx_next 1 (by rfl) (by decide) ?_
    dsimp only [List.take, List.drop]
    repeat (go_big_quiet_step (fail))
    refine wpQuiet_nil ?_
    refine lx_loud (by rfl) (by kernel_rfl) ?_ (fun K hK => ?_)
    · intro L w3 hL hd hcl hC hs
      obtain ⟨x, rfl⟩ := hC
      have hzs := x.size
      simp only [hL, cond_false] at hs
      obtain ⟨i0, hi, hz0, hz1, hz2⟩ := info_parts info_int
      refine wpList_make_full _ rfl _ _ 48 rfl B 3 i0 (.int .i64 0) 1 (by kernel_rfl) hi hz0 hz1 .i64 .i64 _ _ r.counts.length rfl rfl rfl rfl (by rw [hz2]; omega) (by unfold maxLen; omega) (by omega) ?_
      intro w7 hO7 hg7
      have hC7 := grown_chg hg7
      rw [made_ints] at hO7
      have HO7 := Lib.hid hO7
      have HC7 := Lib.hid (hC7.mono (T := fun _ => False) (fun k _ h => by cases h))
      clear hO7 hg7 hC7 hi hz0 hz1 hz2
      go_wp2
      exact aft_set x hlo ⟨_, rfl⟩ hs 1 rfl HC7.out (r' := Res.own B 3 1 (.slice (some ⟨x.world.heap.size, 0, none⟩) r.counts.length r.counts.length) r.counts.length ((List.replicate r.counts.length 0).map (Value.int .i64))) HO7.out (fun k hk => .inr (by rw [← own_blk hk]; exact ⟨Nat.le_refl _, (World.ownsRow.lt HO7.out _ rfl).2⟩)) (by first | (simp [upd, updv, hL]; done) | (simp [upd, updv, hL]; rfl))
    rw [u1]
    go_simp
    with_reducible refine hK _ ?_
    clear hK K
    refine lx_next 1 (by rfl) (by decide) ?_
    dsimp only [List.take, List.drop]
    repeat (go_big_quiet_step (fail))
    refine wpQuiet_nil ?_
    refine lx_loud (by rfl) (by kernel_rfl) ?_ (fun K hK => ?_)
    · intro L w3 hL hd hcl hC hs
      obtain ⟨x, rfl⟩ := hC
      have hzs := x.size
      simp only [hL, cond_false] at hs
      obtain ⟨i0, hi, hz0, hz1, hz2⟩ := info_parts info_bool
      refine wpList_make_full _ rfl _ _ 49 rfl B 4 i0 (.bool false) 1 (by kernel_rfl) hi hz0 hz1 .i64 .i64 _ _ r.counts.length rfl rfl rfl rfl (by rw [hz2]; omega) (by unfold maxLen; omega) (by omega) ?_
      intro w7 hO7 hg7
      have hC7 := grown_chg hg7
      rw [made_bools] at hO7
      have HO7 := Lib.hid hO7
      have HC7 := Lib.hid (hC7.mono (T := fun _ => False) (fun k _ h => by cases h))
      clear hO7 hg7 hC7 hi hz0 hz1 hz2
      go_wp2
      exact aft_set x hlo ⟨_, rfl⟩ hs 2 rfl HC7.out (r' := Res.own B 4 1 (.slice (some ⟨x.world.heap.size, 0, none⟩) r.counts.length r.counts.length) r.counts.length ((List.replicate r.counts.length false).map Value.bool)) HO7.out (fun k hk => .inr (by rw [← own_blk hk]; exact ⟨Nat.le_refl _, (World.ownsRow.lt HO7.out _ rfl).2⟩)) (by first | (simp [upd, updv, hL]; done) | (simp [upd, updv, hL]; rfl))
    rw [u3]
    go_simp
    with_reducible refine hK _ ?_
    clear hK K
    refine lx_next 2 (by rfl) (by decide) ?_
    dsimp only [List.take, List.drop]
    repeat (go_big_quiet_step (fail))
    refine wpQuiet_nil ?_
    refine lx_nil ?_
    intro x hs
    rw [u1, u3] at hs
    have HF5 : Hid (Frm B [Res.own B 3 1 (.slice (some ⟨gs, 0, none⟩) r.counts.length r.counts.length) r.counts.length ((List.replicate r.counts.length 0).map (Value.int .i64)), Res.own B 3 1 (.slice (some ⟨gl, 0, none⟩) r.counts.length r.counts.length) r.counts.length ((List.replicate r.counts.length 0).map (Value.int .i64)), Res.own B 4 1 (.slice (some ⟨gi, 0, none⟩) r.counts.length r.counts.length) r.counts.length ((List.replicate r.counts.length false).map Value.bool)] x.world) := Lib.hid hs
    have HX5 := Lib.hid (Chg.to_ext HX4.out x.chg (by rintro i ⟨_, h⟩; have h : B ≤ i := h; omega))
    clear hs hT hne u1 u3 hlo hsz4 hgs1 HF4 HX4
    generalize x.world = w5 at *
    clear x
    have hsz5 := HX5.out.size
    have hk4l : k4 < w3.heap.size := HTO.out.rul.lt
    have hk5l : k5 < w3.heap.size := HTO.out.tal.lt
    have hpkl : pk < w3.heap.size := HTO.out.sta.lt
    have hk4n : ¬ (B ≤ k4) := by omega
    go_upto_block 0 with fail
    go_cut [12] from 115 to 183 (fun _ wx => Frm B [Res.own B 3 1 (.slice (some ⟨gs, 0, none⟩) r.counts.length r.counts.length) r.counts.length ((List.replicate r.counts.length 0).map (Value.int .i64)), Res.own B 3 1 (.slice (some ⟨gl, 0, none⟩) r.counts.length r.counts.length) r.counts.length ((Gm.begin r).left.map (Value.int .i64)), Res.own B 4 1 (.slice (some ⟨gi, 0, none⟩) r.counts.length r.counts.length) r.counts.length ((Gm.begin r).inn.map Value.bool)] wx ∧ Ext w3 wx)
    case rest =>
      obtain ⟨hf6, hx6⟩ := hcut
      rename_i K0 a0
      refine a0 _ _ ?_
      exact told_visits _ (by kernel_rfl) ⟨k4, k5, pk, c1, c30, c31, c32, c33, c34, c35, pc0, pc1, pc2, pc3, a1, a30, a31, a32, a33, a34, a35, pa0, pa1, pa2, pa3, pnx⟩ r l g E A r.counts.length B gs r.counts.length gl r.counts.length gi r.counts.length w w3 wc HI HOK (Lib.hid rfl) hn8 hl60 hB1 hB2 (Lib.hid hf6) HTO HXW (Lib.hid hx6)
    case first =>
      go_wp2_with fail
      go_loopw [12] (fun pp wr => ∃ (p : Nat) (xs : List Int) (ys : List Bool), p ≤ r.counts.length ∧ pp = .int .i64 p ∧ IniS r p xs ys ∧ Frm B [Res.own B 3 1 (.slice (some ⟨gs, 0, none⟩) r.counts.length r.counts.length) r.counts.length ((List.replicate r.counts.length 0).map (Value.int .i64)), Res.own B 3 1 (.slice (some ⟨gl, 0, none⟩) r.counts.length r.counts.length) r.counts.length (xs.map (Value.int .i64)), Res.own B 4 1 (.slice (some ⟨gi, 0, none⟩) r.counts.length r.counts.length) r.counts.length (ys.map Value.bool)] wr ∧ Ext w3 wr) (fun pp _ => r.counts.length - (intOf pp).toNat)
      case atStart => exact ⟨0, List.replicate r.counts.length 0, List.replicate r.counts.length false, Nat.zero_le _, rfl, ⟨by simp, by simp, fun j _ h => absurd h (by omega), fun j _ h => absurd h (by omega)⟩, HF5.out, HX5.out⟩
      case round =>
        obtain ⟨p, xs, ys, hp, rfl, hS, hF, hx⟩ := hrel
        have hsz := hx.size
        have HS := Lib.hid hS
        have HF1 := Lib.hid hF
        have HX1 := Lib.hid hx
        replace m0 := hx.cell m0
        replace d1 := hx.cell d1
        replace d2 := hx.cell d2
        replace d3 := hx.cell d3
        replace s0 := hx.cell s0
        replace s1 := hx.cell s1
        replace s2 := hx.cell s2
        replace hk4l : k4 < wr.heap.size := by omega
        replace hk5l : k5 < wr.heap.size := by omega
        replace hpkl : pk < wr.heap.size := by omega
        clear hS hF HF5 HX5
        obtain ⟨w6, rfl⟩ : ∃ x, x = wr := ⟨_, rfl⟩
        by_cases hlt : p < r.counts.length
        · have hpl : p < g.left.length := by rw [HI.out.ok.left]; exact hlt
          have hpd : p < g.darts.length := by rw [HI.out.ok.darts]; exact hlt
          have hpi : p < g.inn.length := by rw [HI.out.ok.inn]; exact hlt
          have hpx : p < xs.length := by rw [HS.out.lx]; exact hlt
          have hpy : p < ys.length := by rw [HS.out.ly]; exact hlt
          obtain ⟨b1, o1, rfl, x1⟩ := HSL.out p hpl
          obtain ⟨b2, o2, rfl, x2⟩ := HTL.out p hpl
          obtain ⟨b3, o3, rfl, x3⟩ := HSD.out p hpd
          obtain ⟨b4, o4, rfl, x4⟩ := HTD.out p hpd
          obtain ⟨b5, o5, rfl, x5⟩ := HSI.out p hpi
          obtain ⟨b6, o6, rfl, x6⟩ := HTI.out p hpi
          obtain ⟨cb, co, rfl, z0, z1, -⟩ := HCR.out p hlt
          have hcn : ¬ (B ≤ cb) := by have h := lt_of_cell z0; simp only at h; omega
          have hlb : decide (g.left[p] < 0) = false := by have := (HI.out.ok.lefts _ (List.getElem_mem hpl)).1; simp; omega
          obtain ⟨st, hst⟩ : ∃ st, r.counts[p].start = st := ⟨_, rfl⟩
          obtain ⟨gn, hgn⟩ : ∃ gn, r.counts[p].gin = gn := ⟨_, rfl⟩
          obtain ⟨gb, hgb⟩ : ∃ gb, (gn == (0 : Int)) = gb := ⟨_, rfl⟩
          have hS2 := HS.out.step hlt hst (gb := gb) (by rw [hgn]; exact hgb)
          rw [hst] at z0
          rw [hgn] at z1
          have HS2 := Lib.hid hS2
          clear hst hgn hS2
          generalize g.left[p] = lp at *
          generalize g.darts[p] = dp at *
          generalize g.inn[p] = ip at *
          replace x1 := hx.cell x1
          replace x2 := hx.cell x2
          replace x3 := hx.cell x3
          replace x4 := hx.cell x4
          replace x5 := hx.cell x5
          replace x6 := hx.cell x6
          replace z0 := hx.cell z0
          replace z1 := hx.cell z1
          have y1 := lt_of_cell x1
          have y2 := lt_of_cell x2
          have y3 := lt_of_cell x3
          have y4 := lt_of_cell x4
          have y5 := lt_of_cell x5
          have y6 := lt_of_cell x6
          have hcl := lt_of_cell z0
          simp only at y1 y2 y3 y4 y5 y6 hcl
          go_upto_region 13 with fail
          go_quiet (fail)
          obtain ⟨w7, hw7, hx7⟩ : ∃ x, x = w6.drewN _ ∧ Ext w6 x := ⟨_, rfl, (Ext.refl w6).drewN _⟩
          rw [← hw7]
          have HF7 := Lib.hid (HF1.out.ext hx7)
          have HX7 := Lib.hid (hx.trans hx7)
          replace m0 := hx7.cell m0
          replace z0 := hx7.cell z0
          replace z1 := hx7.cell z1
          have hsz7 := hx7.size
          replace hk4l : k4 < w7.heap.size := by omega
          replace hcl : cb < w7.heap.size := by omega
          have hlo : B ≤ w7.heap.size := by omega
          clear hw7 hx7 d1 d2 d3 s0 s1 s2 x1 x2 x3 x4 x5 x6 y1 y2 y3 y4 y5 y6 hlb hk5l hpkl
          go_upto_region 15 with fail
          refine wp_region_sep (by kernel_rfl) [.no, .no, .no, .no, .no, .no, .no, .no, .no, .no, .no, .no, .no, .no, .no, .no, .no, .no, .any, .no, .any] B
            (fun L u => [Res.own B 3 1 (.slice (some ⟨gs, 0, none⟩) r.counts.length r.counts.length) r.counts.length ((List.replicate r.counts.length 0).map (Value.int .i64)), Res.own B 3 1 (.slice (some ⟨gl, 0, none⟩) r.counts.length r.counts.length) r.counts.length (bif L 18 then (xs.map (Value.int .i64)).set p (.int .i64 st) else (xs.map (Value.int .i64))), Res.own B 4 1 (.slice (some ⟨gi, 0, none⟩) r.counts.length r.counts.length) r.counts.length (bif L 20 then (ys.map Value.bool).set p (.bool gb) else (ys.map Value.bool))])
            (by kernel_rfl) (Nat.le_of_ble_eq_true rfl) (fun L L' u hh => by simp only [hh 18 rfl, hh 20 rfl]) (fun _ => HF7.out) ?_
          intro T hT hne u hu
          clear hu
          refine lx_next 18 (by rfl) (by decide) ?_
          dsimp only [List.take, List.drop]
          repeat (go_big_quiet_step (fail))
          refine wpQuiet_nil ?_
          refine lx_loud (by rfl) (by kernel_rfl) ?_ (fun K hK => ?_)
          · intro L w3 hL hd hcl hC hs
            obtain ⟨x, rfl⟩ := hC
            have hzs := x.size
            simp only [hL, cond_false] at hs
            have hcc := own_int_at (hs.get 1 rfl) hpx
            have hfz := World.ownsRow.frozenAt (hs.get 1 rfl) p
            have hlt := lt_of_cell hcc
            simp only at hlt
            go_wp2
            exact aft_cell x hlo trivial hs 1 rfl rfl (by first | (simp [upd, hL]; done) | (simp [upd, updv, hL]; rfl))
          go_simp
          with_reducible refine hK _ ?_
          clear hK K
          refine lx_next 1 (by rfl) (by decide) ?_
          dsimp only [List.take, List.drop]
          repeat (go_big_quiet_step (fail))
          refine wpQuiet_nil ?_
          refine lx_loud (by rfl) (by kernel_rfl) ?_ (fun K hK => ?_)
          · intro L w3 hL hd hcl hC hs
            obtain ⟨x, rfl⟩ := hC
            have hzs := x.size
            simp only [hL, cond_false] at hs
            have hcc := own_bool_at (hs.get 2 rfl) hpy
            have hfz := World.ownsRow.frozenAt (hs.get 2 rfl) p
            have hlt := lt_of_cell hcc
            simp only at hlt
            go_wp2
            exact aft_cell x hlo trivial hs 2 rfl rfl (by first | (simp [upd, hL]; done) | (simp [upd, updv, hL]; rfl))
          go_simp
          with_reducible refine hK _ ?_
          clear hK K
          refine lx_nil ?_
          intro x hs
          have hs2 : Frm B [Res.own B 3 1 (.slice (some ⟨gs, 0, none⟩) r.counts.length r.counts.length) r.counts.length ((List.replicate r.counts.length 0).map (Value.int .i64)), Res.own B 3 1 (.slice (some ⟨gl, 0, none⟩) r.counts.length r.counts.length) r.counts.length ((xs.set p st).map (Value.int .i64)), Res.own B 4 1 (.slice (some ⟨gi, 0, none⟩) r.counts.length r.counts.length) r.counts.length ((ys.set p gb).map Value.bool)] x.world := by
            rw [List.map_set, List.map_set]
            exact hs
          have HF8 := Lib.hid hs2
          have HX8 := Lib.hid (Chg.to_ext HX7.out x.chg (by rintro i ⟨_, h⟩; have h : B ≤ i := h; omega))
          clear hs hs2 hT hne hlo
          generalize x.world = w8 at *
          clear x
          go_wp2
          go_roundw
          case rel => exact ⟨p + 1, xs.set p st, ys.set p gb, by omega, by go_num, HS2.out, HF8.out, HX8.out⟩
          case measure => simp [intOf]; omega
        · have hpn : p = r.counts.length := by omega
          have hs := HS.out
          rw [hpn] at hs
          obtain ⟨e1, e2⟩ := hs.done
          subst e1 e2
          clear hs hpn
          go_wp2
          go_meet
          exact ⟨HF1.out, HX1.out⟩
end Go.Proofs.Ytocnglplhnhllaa
