/-
  MeanEnds, walked (under way).
-/
import Derived.Test.YtmopadnkjlodnaaNed
namespace Go.Proofs.Ytmopadnkjlodnaa
open Go.RowKit Go.BigFrame
attribute [local go_sem] Later.cell Later.frozen Lat.cell Lat.frozen NoX
def aggC : Value → Array Value
  | .agg cs => cs
  | _ => #[]
/-- What is known while a board and a count are made. -/
structure G1 (s0 : Nat) (L : Nat → Bool) (u : Nat → Value) (W : World) : Prop where
  bd : L 1 = true → ∃ a c bl, u 1 = .slice a bl.length c ∧ OwnD W s0 (.slice a bl.length c) bl ∧ bedsB bl = true ∧ (1 ≤ bl.length ∧ bl.length ≤ 82)
  ct : L 3 = true → ∃ s i o, u 3 = .agg #[.int .i64 s, .int .i64 i, .int .i64 o] ∧ (2 ≤ s ∧ s ≤ 512) ∧ (0 ≤ i ∧ i ≤ 2) ∧ (0 ≤ o ∧ o ≤ 2)
  b4 : L 4 = true → ∃ k, u 4 = .pointer (some ⟨k, 0, none⟩) ∧ s0 ≤ k ∧ BlkT W k (bif L 6 then aggC (u 3) else #[.int .i64 0, .int .i64 0, .int .i64 0]) 24
theorem G1.congr {s0 : Nat} {L L' : Nat → Bool} {u u' : Nat → Value} {W : World} (h : G1 s0 L u W) (h1 : L' 1 = L 1) (h3 : L' 3 = L 3) (h4 : L' 4 = L 4) (h6 : L' 6 = L 6) (u1 : u' 1 = u 1) (u3 : u' 3 = u 3) (u4 : u' 4 = u 4) : G1 s0 L' u' W :=
  ⟨by rw [h1, u1]; exact h.bd, by rw [h3, u3]; exact h.ct, by rw [h4, h6, u4, u3]; exact h.b4⟩
theorem G1.ext {s0 : Nat} {L : Nat → Bool} {u : Nat → Value} {W W' : World} (h : G1 s0 L u W) (hx : Ext W W') : G1 s0 L u W' :=
  ⟨fun e => let ⟨a, c, bl, h1, h2, h3⟩ := h.bd e; ⟨a, c, bl, h1, OwnD.ext h2 hx, h3⟩, h.ct, fun e => let ⟨k, h1, h2, h3⟩ := h.b4 e; ⟨k, h1, h2, h3.ext hx⟩⟩
def R1 (k : Nat) (v : Value) : Prop := (k = 1 → ∃ a n c, v = .slice a n c) ∧ (k = 3 → ∃ s i o, v = .agg #[.int .i64 s, .int .i64 i, .int .i64 o]) ∧ (k = 4 → ∃ b, v = .pointer (some ⟨b, 0, none⟩))
def w1W (k : Nat) : Value := if k = 1 then .slice none 0 0 else if k = 3 then .agg #[.int .i64 0, .int .i64 0, .int .i64 0] else .pointer (some ⟨0, 0, none⟩)
theorem w1W_ok (k : Nat) : R1 k (w1W k) := by
  unfold R1 w1W
  refine ⟨?_, ?_, ?_⟩ <;> rintro rfl
  · exact ⟨none, 0, 0, rfl⟩
  · exact ⟨0, 0, 0, rfl⟩
  · exact ⟨0, rfl⟩
set_option maxRecDepth 100000 in
set_option maxHeartbeats 16000000 in
theorem law_ends (HK : Hid Knows) (n : Nt) (ba sa ha : Option Addr) (bc sc hc : Nat) (w : World) (hA : NtA n ba sa ha w) :
    Calls Try.prog 9 #[.agg (n.cells ba sa ha bc sc hc)] w fun e w' => e = .returned (.bool true) ∧ Ext w w' := by
  have HA := Lib.hid hA
  clear hA
  unfold Nt.cells
  go_enter Try.func9, Try.ntmps9
  go_upto_region 1 with fail
  generalize hw1 : World.alloc w _ = w1
  obtain ⟨k1, hk1⟩ : ∃ y, y = w.heap.size := ⟨_, rfl⟩
  rw [← hk1]
  have HB1 : Hid (Blk w1 k1 #[.slice ba n.beds.length bc, .slice sa n.starts.length sc, .int .u8 n.gates, .slice ha n.hits.length hc]) := Lib.hid (by rw [← hw1, hk1]; exact Blk.new _ _ _)
  have HX1 : Hid (Ext w w1) := Lib.hid (by rw [← hw1]; exact (Ext.refl w).alloc _)
  clear hw1 hk1
  have HNB := Lib.hid (fun W (hx : Ext w W) => night_board n ba sa ha bc sc hc W (HA.out.ext hx))
  have HNC := Lib.hid (fun W (hx : Ext w W) i => night_count n ba sa ha bc sc hc i W (HA.out.ext hx))
  have HNT := Lib.hid (fun W (hx : Ext w W) => fun la lc bl start gin gout at_ => night_tale n ba sa ha la bc sc hc lc bl start gin gout at_ W (HA.out.ext hx))
  unfold Nt.cells at HNB HNC HNT
  have c0 : ∀ y : Lat NoX w1, y.world.cell? ⟨k1, 0, none⟩ = some (.slice ba n.beds.length bc) := fun y => (HB1.out.ext (Lat.ext0 y)).cell 0 rfl
  have c1 : ∀ y : Lat NoX w1, y.world.cell? ⟨k1, 1, none⟩ = some (.slice sa n.starts.length sc) := fun y => (HB1.out.ext (Lat.ext0 y)).cell 1 rfl
  have c2 : ∀ y : Lat NoX w1, y.world.cell? ⟨k1, 2, none⟩ = some (.int .u8 n.gates) := fun y => (HB1.out.ext (Lat.ext0 y)).cell 2 rfl
  have c3 : ∀ y : Lat NoX w1, y.world.cell? ⟨k1, 3, none⟩ = some (.slice ha n.hits.length hc) := fun y => (HB1.out.ext (Lat.ext0 y)).cell 3 rfl
  have cl := HB1.out.lt
  refine wp_region_lat (by kernel_rfl) NoX (fun k => (k == 1) || ((k == 3) || ((k == 4) || (k == 6)))) R1 (G1 w1.heap.size) (by kernel_rfl)
    (fun k hk => by
      simp only [Bool.or_eq_true, beq_iff_eq] at hk
      rcases hk with rfl | rfl | rfl | rfl <;> decide)
    (fun L L' u w' h hg => hg.congr (h 1 rfl) (h 3 rfl) (h 4 rfl) (h 6 rfl) rfl rfl rfl) (fun L u a b h hx => h.ext hx) w1W (fun k _ => w1W_ok k) ⟨fun h => absurd h (by decide), fun h => absurd h (by decide), fun h => absurd h (by decide)⟩ ?_
  intro T hT hne2 u hu
  obtain ⟨la, n1, lc, e_1⟩ := (hu 1 rfl).1 rfl
  obtain ⟨start, gin, gout, e_3⟩ := (hu 3 rfl).2.1 rfl
  obtain ⟨k4, e_4⟩ := (hu 4 rfl).2.2 rfl
  refine lx_next 1 (by rfl) (by decide) ?_
  dsimp only [List.take, List.drop]
  repeat (go_big_quiet_step (fail))
  refine wpQuiet_nil ?_
  refine lx_loud (by rfl) (by kernel_rfl) ?_ (fun K hK => ?_)
  · intro L w4 hL hd hcl hC hs
    obtain ⟨y, rfl⟩ := hC
    have HS := Lib.hid hs
    have HYX := Lib.hid (Lat.ext0 y)
    have HC := Lib.hid (HNB.out y.world (HX1.out.trans HYX.out))
    clear hs hd hcl hL
    go_wp2_with fail
    refine HC.out.mono ?_
    rintro e w5 ⟨a, c, bl, rfl, hO, hbb, hbl, hx'⟩
    have HO := Lib.hid (own_mono hO HYX.out.size)
    have HBB := Lib.hid (And.intro hbb hbl)
    have HXX := Lib.hid hx'
    clear hO hbb hbl hx'
    go_wp2
    have h := HS.out.ext HXX.out
    exact ⟨⟨fun _ => ⟨_, _, _, rfl⟩, fun h => absurd h (by decide), fun h => absurd h (by decide)⟩, ⟨y.ext HXX.out, rfl⟩, ⟨fun _ => ⟨a, c, bl, rfl, HO.out, HBB.out.1, HBB.out.2⟩, h.ct, h.b4⟩⟩
  rw [e_1]
  go_simp
  with_reducible refine hK _ ?_
  clear hK K
  refine lx_next 1 (by rfl) (by decide) ?_
  dsimp only [List.take, List.drop]
  repeat (go_big_quiet_step (fail))
  refine wpQuiet_nil ?_
  refine lx_loud (by rfl) (by kernel_rfl) ?_ (fun K hK => ?_)
  · intro L w4 hL hd hcl hC hs
    obtain ⟨y, rfl⟩ := hC
    have HS := Lib.hid hs
    have HYX := Lib.hid (Lat.ext0 y)
    have HC := Lib.hid (HNC.out y.world (HX1.out.trans HYX.out) 0)
    have H6 := Lib.hid (hcl.off hL 40 6 (by kernel_rfl))
    clear hs hd hcl hL
    go_wp2_with fail
    refine HC.out.mono ?_
    rintro e w5 ⟨s, i, o, rfl, h1, h2, h3, hx'⟩
    have HBD := Lib.hid (And.intro h1 (And.intro h2 h3))
    have HXX := Lib.hid hx'
    clear h1 h2 h3 hx'
    go_wp2
    have h := HS.out.ext HXX.out
    exact ⟨⟨fun h => absurd h (by decide), fun _ => ⟨_, _, _, rfl⟩, fun h => absurd h (by decide)⟩, ⟨y.ext HXX.out, rfl⟩, ⟨h.bd, fun _ => ⟨s, i, o, rfl, HBD.out.1, HBD.out.2.1, HBD.out.2.2⟩, fun e => by
      obtain ⟨k, g1, g2, g3⟩ := h.b4 e
      rw [H6.out] at g3
      refine ⟨k, g1, g2, ?_⟩
      show BlkT _ k (bif L 6 then _ else _) _
      rw [H6.out]
      exact g3⟩⟩
  rw [e_3]
  go_simp
  with_reducible refine hK _ ?_
  clear hK K
  refine lx_loud (by rfl) (by kernel_rfl) ?_ (fun K hK => ?_)
  · intro L w4 hL hd hcl hC hs
    obtain ⟨y, rfl⟩ := hC
    have HS := Lib.hid hs
    have HYX := Lib.hid (Lat.ext0 y)
    have H6 := Lib.hid (hcl.off hL 40 6 (by kernel_rfl))
    clear hs hd hcl hL
    go_wp2
    have h := HS.out.ext ((Ext.refl y.world).alloc (.cells #[.int .i64 0, .int .i64 0, .int .i64 0] 24))
    exact ⟨⟨fun h => absurd h (by decide), fun h => absurd h (by decide), fun _ => ⟨_, rfl⟩⟩, ⟨y.ext ((Ext.refl _).alloc _), rfl⟩, ⟨h.bd, h.ct, fun _ => ⟨_, rfl, HYX.out.size, by rw [show upd L 4 6 = L 6 from rfl, H6.out]; exact BlkT.new _ _ _⟩⟩⟩
  rw [e_4]
  go_simp
  with_reducible refine hK _ ?_
  clear hK K
  refine lx_next 1 (by rfl) (by decide) ?_
  dsimp only [List.take, List.drop]
  repeat (go_big_quiet_step (fail))
  refine wpQuiet_nil ?_
  refine lx_loud (by rfl) (by kernel_rfl) ?_ (fun K hK => ?_)
  · intro L w4 hL hd hcl hC hs
    obtain ⟨y, rfl⟩ := hC
    have h4 := hd 4 (by kernel_rfl)
    obtain ⟨kk, ek, hk, hb⟩ := hs.b4 h4
    obtain rfl : k4 = kk := by rw [e_4] at ek; cases ek; rfl
    rw [hL] at hb
    have hb : BlkT y.world k4 #[.int .i64 0, .int .i64 0, .int .i64 0] 24 := hb
    have r0 := hb.blk.cell 0 (v := .int .i64 0) rfl
    have r1 := hb.blk.cell 1 (v := .int .i64 0) rfl
    have r2 := hb.blk.cell 2 (v := .int .i64 0) rfl
    have f0 := hb.blk.frozen 0
    have f1 := hb.blk.frozen 1
    have f2 := hb.blk.frozen 2
    have rl := hb.blk.lt
    have HS := Lib.hid hs
    have HBK := Lib.hid hb
    have HK0 := Lib.hid hk
    clear hs hd hcl hb hk ek hL h4
    go_wp2
    have hC := three_chg (· = k4) y.world (b := k4) rfl (.int .i64 start) (.int .i64 gin) (.int .i64 gout)
    refine ⟨⟨fun h => absurd h (by decide), fun h => absurd h (by decide), fun h => absurd h (by decide)⟩, ⟨y.chgd hC (fun b hb => .inl (by rw [show b = k4 from hb]; exact HK0.out)), rfl⟩, ⟨fun e => ?_, HS.out.ct, fun _ => ⟨k4, e_4, HK0.out, ?_⟩⟩⟩
    · obtain ⟨a, c, bl, g1, g2, g3⟩ := HS.out.bd e
      exact ⟨a, c, bl, g1, own_chg g2 hC (fun q hq => own_neT g2 HBK.out (by decide) q hq), g3⟩
    · show BlkT _ k4 (aggC (u 3)) _
      rw [e_3]
      have h0 : BlkT _ k4 #[.int .i64 start, .int .i64 0, .int .i64 0] 24 := HBK.out.set 0 (.int .i64 start)
      have h1 : BlkT _ k4 #[.int .i64 start, .int .i64 gin, .int .i64 0] 24 := h0.set 1 (.int .i64 gin)
      have h2 : BlkT _ k4 #[.int .i64 start, .int .i64 gin, .int .i64 gout] 24 := h1.set 2 (.int .i64 gout)
      exact h2
  go_simp
  with_reducible refine hK _ ?_
  clear hK K
  refine lx_nil ?_
  intro y hs
  obtain ⟨a1, c1, bl, g1, hO, hbb, hbl⟩ := hs.bd rfl
  obtain ⟨rfl, rfl, rfl⟩ : la = a1 ∧ n1 = bl.length ∧ lc = c1 := by rw [e_1] at g1; simpa using g1
  obtain ⟨s1, i1, o1, g2, hstb, hgi, hgo⟩ := hs.ct rfl
  obtain ⟨rfl, rfl, rfl⟩ : start = s1 ∧ gin = i1 ∧ gout = o1 := by rw [e_3] at g2; simpa using g2
  obtain ⟨kk, ek, hk4, hb4⟩ := hs.b4 rfl
  obtain rfl : k4 = kk := by rw [e_4] at ek; cases ek; rfl
  have HC4 : Hid (Blk y.world k4 #[.int .i64 start, .int .i64 gin, .int .i64 gout]) := Lib.hid (by have h := hb4.blk; rw [e_3] at h; exact h)
  have HX12 : Hid (Ext w1 y.world) := Lib.hid (Lat.ext0 y)
  have HOB := Lib.hid hO
  have HBB := Lib.hid hbb
  clear hs hu hT hne2 e_1 e_3 e_4 hO hbb hb4 ek hk4
  generalize y.world = w2 at *
  clear y
  clear c0 c1 c2 c3 cl
  obtain ⟨lb, lo, rfl, -⟩ := HOB.out.at0 0 (by omega)
  have HX2 := Lib.hid (HX1.out.trans HX12.out)
  have HB2 := Lib.hid (HB1.out.ext HX12.out)
  have HI64 : Hid (∀ b ∈ bl, I64 b) := Lib.hid (fun b hb => by
    obtain ⟨i, hi, rfl⟩ := List.mem_iff_getElem.1 hb
    have h := (BedOk.parts (.inr ((bedsB_iff bl).1 HBB.out i hi hi).1)).1
    exact ⟨by omega, by omega⟩)
  have c0 := HB2.out.cell 0 (v := .slice ba n.beds.length bc) rfl
  have c1 := HB2.out.cell 1 (v := .slice sa n.starts.length sc) rfl
  have c2 := HB2.out.cell 2 (v := .int .u8 n.gates) rfl
  have c3 := HB2.out.cell 3 (v := .slice ha n.hits.length hc) rfl
  have cl := HB2.out.lt
  have q0 := HC4.out.cell 0 (v := .int .i64 start) rfl
  have q1 := HC4.out.cell 1 (v := .int .i64 gin) rfl
  have q2 := HC4.out.cell 2 (v := .int .i64 gout) rfl
  have ql := HC4.out.lt
  have hnt := HNT.out w2 HX2.out (some ⟨lb, lo, none⟩) lc bl start gin gout 0 HOB.out.at0 HBB.out hbl hstb hgi hgo (by omega)
  rw [show ((0 : Nat) : Int) = 0 from rfl] at hnt
  have HTL := Lib.hid hnt
  clear hnt
  go_wp2_with fail
  refine HTL.out.mono ?_
  rintro e w6 ⟨vs, x, vv, rfl, hW, hrun, htx, hvs, hmem, hx6⟩
  obtain ⟨va, vc, rfl⟩ := hW.shape
  have HX6 := Lib.hid hx6
  have HB6 := Lib.hid (HB2.out.ext hx6)
  have HC6 := Lib.hid (HC4.out.ext hx6)
  have HW6 := Lib.hid hW
  have HRUN := Lib.hid hrun
  have HTX := Lib.hid htx
  have HVS := Lib.hid hvs
  have HMEM := Lib.hid hmem
  clear hx6 hW hrun htx hvs hmem c0 c1 c2 c3 cl q0 q1 q2 ql HTL
  have HLAW : Hid (lawsB start gin gout bl = true) := Lib.hid (by
    unfold lawsB
    rw [HBB.out]
    simp only [Bool.true_and, Bool.and_eq_true]
    exact ⟨⟨ins_one.2 (by omega), by unfold ins out1; simp; omega⟩, ins_one.2 (by omega)⟩)
  have HEF : Hid (exaF start gin gout bl vs = .inl x) := Lib.hid (by
    rw [exa_ref]
    unfold rxF
    rw [if_neg (by rw [HLAW.out]; decide), if_neg (by have := HVS.out; omega)]
    exact HRUN.out)
  have HVI : Hid (∀ v ∈ vs, v.length ≤ 1000 ∧ ∀ y ∈ v, I64 y) := Lib.hid (fun v hv => by
    obtain ⟨h1, h2⟩ := HMEM.out v hv
    exact ⟨by omega, fun y hy => by have := (h2 y hy).parts.1; exact ⟨by omega, by omega⟩⟩)
  go_upto_region 3 with fail
  generalize hw7 : World.alloc w6 _ = w7
  obtain ⟨k11, hk11⟩ : ∃ y, y = w6.heap.size := ⟨_, rfl⟩
  rw [← hk11]
  have HT7 : Hid (Blk w7 k11 #[.slice va vs.length vc, .int .i64 x.t.points, .int .i64 x.t.darts.lo, .int .i64 x.t.tried.lo, .bool x.won]) := Lib.hid (by rw [← hw7, hk11]; exact Blk.new _ _ _)
  have HX67 : Hid (Ext w6 w7) := Lib.hid (by rw [← hw7]; exact (Ext.refl _).alloc _)
  clear hw7 hk11
  have HX7' := Lib.hid (HX6.out.trans HX67.out)
  have HB7 := Lib.hid (HB6.out.ext HX67.out)
  have HC7 := Lib.hid (HC6.out.ext HX67.out)
  have HW7 := Lib.hid (HW6.out.ext HX67.out)
  clear HX67 HB6 HC6 HW6
  have HOB6 := Lib.hid (OwnD.ext HOB.out HX7'.out)
  have HCP := Lib.hid (fun W (hx : Ext w7 W) => law_copies vs va vc W (by
    obtain ⟨a', c', e', h'⟩ := ways_vsa (HW7.out.ext hx) (fun v hv => (HVI.out v hv).2)
    cases e'
    exact h') (by have := HVS.out; omega) (fun v hv => (HVI.out v hv).1))
  have HEX : Hid (∀ W (a3 : Option Addr) (c3 : Nat) (a6 : Option Addr) (c6 : Nat), OwnD W w7.heap.size (.slice a3 bl.length c3) bl → WaysAt W w7.heap.size (.slice a6 vs.length c6) vs → Calls Try.prog 30 #[.agg #[.int .i64 start, .int .i64 gin, .int .i64 gout], .slice a3 bl.length c3, .slice a6 vs.length c6] W fun e w' => (∃ la lc sa sc, e = .returned (.tuple #[.agg x.t.cells, .agg #[.int .i64 start, .int .i64 gin, .int .i64 gout, .slice la bl.length lc, .slice sa x.scores.length sc, .bool x.won], .int .i64 0, .int .i64 0]) ∧ OwnD w' W.heap.size (.slice la bl.length lc) bl ∧ OwnI w' W.heap.size (.slice sa x.scores.length sc) x.scores) ∧ Ext W w') := Lib.hid (fun W a3 c3 a6 c6 h3 h6 => by
    obtain ⟨a', c', e', h'⟩ := ways_vsa h6 (fun v hv => (HVI.out v hv).2)
    cases e'
    refine (mean_Exact start gin gout bl a3 c3 vs a6 c6 W ⟨by omega, by omega⟩ (h3.rd (fun _ _ h => h)) HI64.out (h'.vss (fun v hv => (HVI.out v hv).1)) (by have := HVS.out; omega)).mono ?_
    rintro e w' ⟨h1, h2⟩
    rw [HEF.out] at h1
    exact ⟨h1, h2⟩)
  unfold Tot.cells at HEX
  have m0 : ∀ y : Lat NoX w7, y.world.cell? ⟨k4, 0, none⟩ = some (.int .i64 start) := fun y => (HC7.out.ext (Lat.ext0 y)).cell 0 rfl
  have m1 : ∀ y : Lat NoX w7, y.world.cell? ⟨k4, 1, none⟩ = some (.int .i64 gin) := fun y => (HC7.out.ext (Lat.ext0 y)).cell 1 rfl
  have m2 : ∀ y : Lat NoX w7, y.world.cell? ⟨k4, 2, none⟩ = some (.int .i64 gout) := fun y => (HC7.out.ext (Lat.ext0 y)).cell 2 rfl
  have ml := HC7.out.lt
  have t0 : ∀ y : Lat NoX w7, y.world.cell? ⟨k11, 0, none⟩ = some (.slice va vs.length vc) := fun y => (HT7.out.ext (Lat.ext0 y)).cell 0 rfl
  have t1 : ∀ y : Lat NoX w7, y.world.cell? ⟨k11, 1, none⟩ = some (.int .i64 x.t.points) := fun y => (HT7.out.ext (Lat.ext0 y)).cell 1 rfl
  have t2 : ∀ y : Lat NoX w7, y.world.cell? ⟨k11, 2, none⟩ = some (.int .i64 x.t.darts.lo) := fun y => (HT7.out.ext (Lat.ext0 y)).cell 2 rfl
  have t3 : ∀ y : Lat NoX w7, y.world.cell? ⟨k11, 3, none⟩ = some (.int .i64 x.t.tried.lo) := fun y => (HT7.out.ext (Lat.ext0 y)).cell 3 rfl
  have t4 : ∀ y : Lat NoX w7, y.world.cell? ⟨k11, 4, none⟩ = some (.bool x.won) := fun y => (HT7.out.ext (Lat.ext0 y)).cell 4 rfl
  have tl := HT7.out.lt
  go_cut [6, 7, 8, 9] (fun p q a e wx => ∃ (k12 k13 : Nat) (a7 : Option Addr) (c7 : Nat) (s7 : Option Addr) (d7 : Nat), p = .pointer (some ⟨k12, 0, none⟩) ∧ q = .pointer (some ⟨k13, 0, none⟩) ∧ a = .int .i64 0 ∧ e = .int .i64 0 ∧ Blk wx k12 #[.int .i64 x.t.legs, .int .i64 x.t.won, .int .i64 x.t.visits, .int .i64 x.t.points, .int .i64 x.t.darts.lo, .int .i64 x.t.darts.hi, .int .i64 x.t.tried.lo, .int .i64 x.t.tried.hi, .int .i64 x.t.tons, .int .i64 x.t.highs, .int .i64 x.t.tops, .int .i64 x.t.best] ∧ Blk wx k13 #[.int .i64 start, .int .i64 gin, .int .i64 gout, .slice a7 bl.length c7, .slice s7 x.scores.length d7, .bool x.won] ∧ OwnD wx w7.heap.size (.slice a7 bl.length c7) bl ∧ OwnI wx w7.heap.size (.slice s7 x.scores.length d7) x.scores ∧ Ext w7 wx)
  case first =>
    refine wp_region_lat (by kernel_rfl) NoX (fun k => (k == 1) || ((k == 3) || ((k == 6) || ((k == 7) || ((k == 13) || ((k == 14) || ((k == 15) || (k == 16)))))))) (R7 bl vs start gin gout x) (G7 w7.heap.size bl vs start gin gout x) (by kernel_rfl)
      (fun k hk => by
        simp only [Bool.or_eq_true, beq_iff_eq] at hk
        rcases hk with rfl | rfl | rfl | rfl | rfl | rfl | rfl | rfl <;> decide)
      (fun L L' u w' h hg => hg.congr (h 3 rfl) (h 6 rfl) (h 7 rfl) (h 13 rfl) (h 14 rfl) (h 15 rfl) (h 16 rfl) rfl rfl rfl rfl rfl) (fun L u a b h hx => h.ext hx) (w7W bl vs start gin gout x) (fun k _ => w7W_ok _ _ _ _ _ _ k) ⟨fun h => absurd h (by decide), fun h => absurd h (by decide), fun h => absurd h (by decide), fun h => absurd h (by decide), fun h => absurd h (by decide)⟩ ?_
    intro T hT hne2 u hu
    obtain ⟨b1, e_1⟩ := (hu 1 rfl).1 rfl
    obtain ⟨a3, c3, e_3⟩ := (hu 3 rfl).2.1 rfl
    obtain ⟨a6, c6, e_6⟩ := (hu 6 rfl).2.2.1 rfl
    obtain ⟨a7, c7, s7, d7, e_7⟩ := (hu 7 rfl).2.2.2.1 rfl
    obtain ⟨k12, e_13⟩ := (hu 13 rfl).2.2.2.2.1 rfl
    obtain ⟨k13, e_14⟩ := (hu 14 rfl).2.2.2.2.2 rfl
    unfold ExaV Tot.cells at e_7
    refine lx_next 1 (by rfl) (by decide) ?_
    dsimp only [List.take, List.drop]
    repeat (go_big_quiet_step (fail))
    refine wpQuiet_nil ?_
    refine lx_loud (by rfl) (by kernel_rfl) ?_ (fun K hK => ?_)
    · intro L w4 hL hd hcl hC hs
      obtain ⟨y, rfl⟩ := hC
      have HS := Lib.hid hs
      clear hs hd hcl hL
      go_wp2
      exact ⟨⟨fun _ => ⟨_, rfl⟩, fun h => absurd h (by decide), fun h => absurd h (by decide), fun h => absurd h (by decide), fun h => absurd h (by decide), fun h => absurd h (by decide)⟩, ⟨y.ext ((Ext.refl _).alloc _), rfl⟩, (HS.out.ext ((Ext.refl _).alloc _)).congr rfl rfl rfl rfl rfl rfl rfl rfl rfl rfl rfl rfl⟩
    rw [e_1]
    go_simp
    with_reducible refine hK _ ?_
    clear hK K
    refine lx_next 1 (by rfl) (by decide) ?_
    dsimp only [List.take, List.drop]
    repeat (go_big_quiet_step (fail))
    refine wpQuiet_nil ?_
    refine lx_loud (by rfl) (by kernel_rfl) ?_ (fun K hK => ?_)
    · intro L w4 hL hd hcl hC hs
      obtain ⟨y, rfl⟩ := hC
      have HS := Lib.hid hs
      have hyx := Lat.ext0 y
      have HYX := Lib.hid hyx
      clear hs hd hcl hL hyx
      go_wp2_with (at_builtin; refine wp_append_new rfl _ _ 25 99 _ 1 8 rfl info_bed (by kernel_rfl) rfl (by decide) ⟨b1, 0, none⟩ rfl ⟨lb, lo, none⟩ bl.length lc (bl.map (Value.int .i64)) rfl (by simp) (CellsAt.vals (OwnD.ext HOB6.out HYX.out).at0 _ rfl) (by omega) (by omega) (by omega) ?_)
      intro v' w5 hO' hx'
      have hO2 : OwnD w5 y.world.heap.size v' bl := by exact hO'
      obtain ⟨av, ac, rfl⟩ := hO2.shape
      have HO2 := Lib.hid hO2
      have HXX := Lib.hid hx'
      clear hO' hx' hO2
      go_wp2
      have h := HS.out.ext HXX.out
      exact ⟨⟨fun h => absurd h (by decide), fun _ => ⟨_, _, rfl⟩, fun h => absurd h (by decide), fun h => absurd h (by decide), fun h => absurd h (by decide), fun h => absurd h (by decide)⟩, ⟨y.ext HXX.out, rfl⟩, ⟨fun _ _ => own_mono HO2.out HYX.out.size, h.vis, h.exa, h.b12, h.b13⟩⟩
    rw [e_3]
    go_simp
    with_reducible refine hK _ ?_
    clear hK K
    refine lx_next 2 (by rfl) (by decide) ?_
    dsimp only [List.take, List.drop]
    repeat (go_big_quiet_step (fail))
    refine wpQuiet_nil ?_
    refine lx_loud (by rfl) (by kernel_rfl) ?_ (fun K hK => ?_)
    · intro L w4 hL hd hcl hC hs
      obtain ⟨y, rfl⟩ := hC
      have HS := Lib.hid hs
      have HYX := Lib.hid (Lat.ext0 y)
      clear hs hd hcl hL
      go_wp2_with fail
      refine (HCP.out _ HYX.out).mono ?_
      rintro e w5 ⟨v', rfl, hw5, hx'⟩
      obtain ⟨av, ac, rfl⟩ := hw5.shape
      have HW5 := Lib.hid hw5
      have HXX := Lib.hid hx'
      clear hw5 hx'
      go_wp2
      have h := HS.out.ext HXX.out
      exact ⟨⟨fun h => absurd h (by decide), fun h => absurd h (by decide), fun _ => ⟨_, _, rfl⟩, fun h => absurd h (by decide), fun h => absurd h (by decide), fun h => absurd h (by decide)⟩, ⟨y.ext HXX.out, rfl⟩, ⟨h.app, fun _ _ => HW5.out.mono HYX.out.size, h.exa, h.b12, h.b13⟩⟩
    rw [e_6]
    go_simp
    with_reducible refine hK _ ?_
    clear hK K
    refine lx_loud (by rfl) (by kernel_rfl) ?_ (fun K hK => ?_)
    · intro L w4 hL hd hcl hC hs
      obtain ⟨y, rfl⟩ := hC
      have h3 := hs.app (hd 3 (by kernel_rfl)) hL
      have h6 := hs.vis (hd 6 (by kernel_rfl)) hL
      rw [e_3] at h3
      rw [e_6] at h6
      have HYX := Lib.hid (Lat.ext0 y)
      have HCX := Lib.hid (HEX.out y.world a3 c3 a6 c6 h3 h6)
      have HS := Lib.hid hs
      have H16 := Lib.hid (hcl.off hL 40 16 (by kernel_rfl))
      clear hs hd hcl hL h3 h6
      go_wp2_with fail
      refine HCX.out.mono ?_
      rintro e w5 ⟨⟨l1, l2, l3, l4, rfl, m2, m3⟩, hx'⟩
      have HM2 := Lib.hid m2
      have HM3 := Lib.hid m3
      have HXX := Lib.hid hx'
      clear m2 m3 hx'
      go_wp2
      have h := HS.out.ext HXX.out
      exact ⟨⟨fun h => absurd h (by decide), fun h => absurd h (by decide), fun h => absurd h (by decide), fun _ => ⟨_, _, _, _, rfl⟩, fun h => absurd h (by decide), fun h => absurd h (by decide)⟩, ⟨y.ext HXX.out, rfl⟩, ⟨fun _ h => Bool.noConfusion (show true = false from h), fun _ h => Bool.noConfusion (show true = false from h), fun _ => ⟨_, _, _, _, rfl, own_mono HM2.out HYX.out.size, own_mono HM3.out HYX.out.size⟩, h.b12, fun e => by
        obtain ⟨k, g1, g2, g3⟩ := h.b13 e
        rw [H16.out] at g3
        refine ⟨k, g1, g2, ?_⟩
        show BlkT _ k (bif L 16 then _ else leg0C) _
        rw [H16.out]
        exact g3⟩⟩
    rw [e_7]
    go_simp
    with_reducible refine hK _ ?_
    clear hK K
    refine lx_next 5 (by rfl) (by decide) ?_
    dsimp only [List.take, List.drop]
    repeat (go_big_quiet_step (fail))
    refine wpQuiet_nil ?_
    refine lx_loud (by rfl) (by kernel_rfl) ?_ (fun K hK => ?_)
    · intro L w4 hL hd hcl hC hs
      obtain ⟨y, rfl⟩ := hC
      have HS := Lib.hid hs
      have HYX := Lib.hid (Lat.ext0 y)
      have H15 := Lib.hid (hcl.off hL 40 15 (by kernel_rfl))
      clear hs hd hcl hL
      go_wp2
      have h := HS.out.ext ((Ext.refl y.world).alloc (.cells tot0.cells 55))
      exact ⟨⟨fun h => absurd h (by decide), fun h => absurd h (by decide), fun h => absurd h (by decide), fun h => absurd h (by decide), fun _ => ⟨_, rfl⟩, fun h => absurd h (by decide)⟩, ⟨y.ext ((Ext.refl _).alloc _), rfl⟩, ⟨h.app, h.vis, h.exa, fun _ => ⟨_, rfl, HYX.out.size, by rw [show upd L 13 15 = L 15 from rfl, H15.out]; exact BlkT.new _ _ _⟩, h.b13⟩⟩
    rw [e_13]
    go_simp
    with_reducible refine hK _ ?_
    clear hK K
    refine lx_loud (by rfl) (by kernel_rfl) ?_ (fun K hK => ?_)
    · intro L w4 hL hd hcl hC hs
      obtain ⟨y, rfl⟩ := hC
      have HS := Lib.hid hs
      have HYX := Lib.hid (Lat.ext0 y)
      have H16 := Lib.hid (hcl.off hL 40 16 (by kernel_rfl))
      clear hs hd hcl hL
      go_wp2
      have h := HS.out.ext ((Ext.refl y.world).alloc (.cells leg0C 28))
      exact ⟨⟨fun h => absurd h (by decide), fun h => absurd h (by decide), fun h => absurd h (by decide), fun h => absurd h (by decide), fun h => absurd h (by decide), fun _ => ⟨_, rfl⟩⟩, ⟨y.ext ((Ext.refl _).alloc _), rfl⟩, ⟨h.app, h.vis, h.exa, h.b12, fun _ => ⟨_, rfl, HYX.out.size, by rw [show upd L 14 16 = L 16 from rfl, H16.out]; exact BlkT.new _ _ _⟩⟩⟩
    rw [e_14]
    go_simp
    with_reducible refine hK _ ?_
    clear hK K
    refine lx_loud (by rfl) (by kernel_rfl) ?_ (fun K hK => ?_)
    · intro L w4 hL hd hcl hC hs
      obtain ⟨y, rfl⟩ := hC
      have h13 := hd 13 (by kernel_rfl)
      have h7 := hd 7 (by kernel_rfl)
      obtain ⟨kk, ek, hk, hb⟩ := hs.b12 h13
      obtain rfl : k12 = kk := by rw [e_13] at ek; cases ek; rfl
      rw [hL] at hb
      have hb : BlkT y.world k12 #[.int .i64 0, .int .i64 0, .int .i64 0, .int .i64 0, .int .i64 0, .int .i64 0, .int .i64 0, .int .i64 0, .int .i64 0, .int .i64 0, .int .i64 0, .int .i64 0] 55 := hb
      have r0 := hb.blk.cell 0 (v := .int .i64 0) rfl
      have f0 := hb.blk.frozen 0
      have r1 := hb.blk.cell 1 (v := .int .i64 0) rfl
      have f1 := hb.blk.frozen 1
      have r2 := hb.blk.cell 2 (v := .int .i64 0) rfl
      have f2 := hb.blk.frozen 2
      have r3 := hb.blk.cell 3 (v := .int .i64 0) rfl
      have f3 := hb.blk.frozen 3
      have r4 := hb.blk.cell 4 (v := .int .i64 0) rfl
      have f4 := hb.blk.frozen 4
      have r5 := hb.blk.cell 5 (v := .int .i64 0) rfl
      have f5 := hb.blk.frozen 5
      have r6 := hb.blk.cell 6 (v := .int .i64 0) rfl
      have f6 := hb.blk.frozen 6
      have r7 := hb.blk.cell 7 (v := .int .i64 0) rfl
      have f7 := hb.blk.frozen 7
      have r8 := hb.blk.cell 8 (v := .int .i64 0) rfl
      have f8 := hb.blk.frozen 8
      have r9 := hb.blk.cell 9 (v := .int .i64 0) rfl
      have f9 := hb.blk.frozen 9
      have r10 := hb.blk.cell 10 (v := .int .i64 0) rfl
      have f10 := hb.blk.frozen 10
      have r11 := hb.blk.cell 11 (v := .int .i64 0) rfl
      have f11 := hb.blk.frozen 11
      have rl := hb.blk.lt
      have HS := Lib.hid hs
      have HBK := Lib.hid hb
      have HK0 := Lib.hid hk
      have H7 := Lib.hid h7
      clear hs hd hcl hb hk ek hL h7
      go_wp2
      have h7 := H7.out
      have hC := twl_chg (· = k12) y.world (b := k12) rfl (.int .i64 x.t.legs) (.int .i64 x.t.won) (.int .i64 x.t.visits) (.int .i64 x.t.points) (.int .i64 x.t.darts.lo) (.int .i64 x.t.darts.hi) (.int .i64 x.t.tried.lo) (.int .i64 x.t.tried.hi) (.int .i64 x.t.tons) (.int .i64 x.t.highs) (.int .i64 x.t.tops) (.int .i64 x.t.best)
      refine ⟨⟨fun h => absurd h (by decide), fun h => absurd h (by decide), fun h => absurd h (by decide), fun h => absurd h (by decide), fun h => absurd h (by decide), fun h => absurd h (by decide)⟩, ⟨y.chgd hC (fun b hb => .inl (by rw [show b = k12 from hb]; exact HK0.out)), rfl⟩, ⟨(fun _ h => by have h : L 7 = false := h; rw [h7] at h; cases h), (fun _ h => by have h : L 7 = false := h; rw [h7] at h; cases h), fun e => ?_, ?_, ?_⟩⟩
      · obtain ⟨l1, l2, l3, l4, m1, m2, m3⟩ := HS.out.exa e
        exact ⟨l1, l2, l3, l4, m1, own_chg m2 hC (fun q hq => own_neT m2 HBK.out (by decide) q hq), own_chg m3 hC (fun q hq => own_neT m3 HBK.out (by decide) q hq)⟩
      · intro _
        refine ⟨k12, e_13, HK0.out, ?_⟩
        show BlkT _ k12 x.t.cells 55
        exact twl_setT HBK.out (.int .i64 x.t.legs) (.int .i64 x.t.won) (.int .i64 x.t.visits) (.int .i64 x.t.points) (.int .i64 x.t.darts.lo) (.int .i64 x.t.darts.hi) (.int .i64 x.t.tried.lo) (.int .i64 x.t.tried.hi) (.int .i64 x.t.tons) (.int .i64 x.t.highs) (.int .i64 x.t.tops) (.int .i64 x.t.best)
      · intro e
        obtain ⟨kk, ek, hk, hb⟩ := HS.out.b13 e
        exact ⟨kk, ek, hk, hb.chg hC (fun h => BlkT.ne hb HBK.out (by decide) h)⟩
    go_simp
    with_reducible refine hK _ ?_
    clear hK K
    refine lx_loud (by rfl) (by kernel_rfl) ?_ (fun K hK => ?_)
    · intro L w4 hL hd hcl hC hs
      obtain ⟨y, rfl⟩ := hC
      have h14 := hd 14 (by kernel_rfl)
      have h7 := hd 7 (by kernel_rfl)
      obtain ⟨kk, ek, hk, hb⟩ := hs.b13 h14
      obtain rfl : k13 = kk := by rw [e_14] at ek; cases ek; rfl
      rw [hL] at hb
      have hb : BlkT y.world k13 #[.int .i64 0, .int .i64 0, .int .i64 0, .slice none 0 0, .slice none 0 0, .bool false] 28 := hb
      have r0 := hb.blk.cell 0 (v := .int .i64 0) rfl
      have f0 := hb.blk.frozen 0
      have r1 := hb.blk.cell 1 (v := .int .i64 0) rfl
      have f1 := hb.blk.frozen 1
      have r2 := hb.blk.cell 2 (v := .int .i64 0) rfl
      have f2 := hb.blk.frozen 2
      have r3 := hb.blk.cell 3 (v := .slice none 0 0) rfl
      have f3 := hb.blk.frozen 3
      have r4 := hb.blk.cell 4 (v := .slice none 0 0) rfl
      have f4 := hb.blk.frozen 4
      have r5 := hb.blk.cell 5 (v := .bool false) rfl
      have f5 := hb.blk.frozen 5
      have rl := hb.blk.lt
      have HS := Lib.hid hs
      have HBK := Lib.hid hb
      have HK0 := Lib.hid hk
      have H7 := Lib.hid h7
      clear hs hd hcl hb hk ek hL h7
      go_wp2
      have h7 := H7.out
      have hC := six_chgT (· = k13) y.world (b := k13) rfl (.int .i64 start) (.int .i64 gin) (.int .i64 gout) (.slice a7 bl.length c7) (.slice s7 x.scores.length d7) (.bool x.won)
      refine ⟨⟨fun h => absurd h (by decide), fun h => absurd h (by decide), fun h => absurd h (by decide), fun h => absurd h (by decide), fun h => absurd h (by decide), fun h => absurd h (by decide)⟩, ⟨y.chgd hC (fun b hb => .inl (by rw [show b = k13 from hb]; exact HK0.out)), rfl⟩, ⟨(fun _ h => by have h : L 7 = false := h; rw [h7] at h; cases h), (fun _ h => by have h : L 7 = false := h; rw [h7] at h; cases h), fun e => ?_, ?_, ?_⟩⟩
      · obtain ⟨l1, l2, l3, l4, m1, m2, m3⟩ := HS.out.exa e
        exact ⟨l1, l2, l3, l4, m1, own_chg m2 hC (fun q hq => own_neT m2 HBK.out (by decide) q hq), own_chg m3 hC (fun q hq => own_neT m3 HBK.out (by decide) q hq)⟩
      · intro e
        obtain ⟨kk, ek, hk, hb⟩ := HS.out.b12 e
        exact ⟨kk, ek, hk, hb.chg hC (fun h => BlkT.ne hb HBK.out (by decide) h)⟩
      · intro _
        refine ⟨k13, e_14, HK0.out, ?_⟩
        show BlkT _ k13 (legC7 (u 7)) 28
        rw [e_7]
        exact six_setT HBK.out (.int .i64 start) (.int .i64 gin) (.int .i64 gout) (.slice a7 bl.length c7) (.slice s7 x.scores.length d7) (.bool x.won)
    go_simp
    with_reducible refine hK _ ?_
    clear hK K
    refine lx_next 2 (by rfl) (by decide) ?_
    dsimp only [List.take, List.drop]
    repeat (go_big_quiet_step (fail))
    refine wpQuiet_nil ?_
    refine lx_nil ?_
    intro y hs
    obtain ⟨l1, l2, l3, l4, m1, m2, m3⟩ := hs.exa rfl
    rw [e_7] at m1
    obtain ⟨⟨rfl, rfl⟩, rfl, rfl⟩ : (a7 = l1 ∧ c7 = l2) ∧ s7 = l3 ∧ d7 = l4 := by unfold ExaV Tot.cells at m1; simpa using m1
    obtain ⟨kk, ek, hk12, hb12⟩ := hs.b12 rfl
    obtain rfl : k12 = kk := by rw [e_13] at ek; cases ek; rfl
    obtain ⟨kk, ek2, hk13, hb13⟩ := hs.b13 rfl
    obtain rfl : k13 = kk := by rw [e_14] at ek2; cases ek2; rfl
    have HB12 : Hid (Blk y.world k12 #[.int .i64 x.t.legs, .int .i64 x.t.won, .int .i64 x.t.visits, .int .i64 x.t.points, .int .i64 x.t.darts.lo, .int .i64 x.t.darts.hi, .int .i64 x.t.tried.lo, .int .i64 x.t.tried.hi, .int .i64 x.t.tons, .int .i64 x.t.highs, .int .i64 x.t.tops, .int .i64 x.t.best]) := Lib.hid hb12.blk
    have HB13 : Hid (Blk y.world k13 #[.int .i64 start, .int .i64 gin, .int .i64 gout, .slice a7 bl.length c7, .slice s7 x.scores.length d7, .bool x.won]) := Lib.hid (by have h := hb13.blk; rw [e_7] at h; exact h)
    have HOL : Hid (OwnD y.world w7.heap.size (.slice a7 bl.length c7) bl) := Lib.hid m2
    have HOS : Hid (OwnI y.world w7.heap.size (.slice s7 x.scores.length d7) x.scores) := Lib.hid m3
    have HX7 : Hid (Ext w7 y.world) := Lib.hid (Lat.ext0 y)
    clear hs hu hT hne2 e_1 e_3 e_6 e_7 e_13 e_14 m1 m2 m3 hb12 hb13 ek ek2 hk12 hk13
    generalize y.world = w8 at *
    clear y
    go_wp2
    go_meet
    exact ⟨k12, k13, a7, c7, s7, d7, rfl, rfl, rfl, rfl, HB12.out, HB13.out, HOL.out, HOS.out, HX7.out⟩
  case rest =>
  obtain ⟨k12, k13, a7, c7, s7, d7, hc1, hc2, hc3, hc4, hb12, hb13, hol, hos, hx8⟩ := hcut
  subst hc1
  subst hc2
  subst hc3
  subst hc4
  obtain ⟨w8, rfl⟩ : ∃ y, y = wc := ⟨_, rfl⟩
  clear m0 m1 m2 ml t0 t1 t2 t3 t4 tl HCP HEX HEF
  have HX8 := Lib.hid ((HX2.out.trans HX7'.out).trans hx8)
  have HC8 := Lib.hid (HC7.out.ext hx8)
  have HOB8 := Lib.hid (OwnD.ext HOB6.out hx8)
  have hv1 : 1 ≤ vs.length := by
    rcases Nat.eq_zero_or_pos vs.length with h | h
    · have h4 := List.length_eq_zero_iff.1 h
      have h3 := HRUN.out
      rw [h4] at h3
      injection h3 with h3
      have h5 := HVS.out.2 (by rw [← h3]; rfl)
      omega
    · exact h
  have hok : Tld.ok bl (Tld.mk start gin gout vs x) := ⟨HLAW.out, HRUN.out, hv1, HVS.out.1⟩
  have HOK := Lib.hid hok
  have hsl : x.scores.length = vs.length := HTX.out.sco
  have HSI : Hid (∀ y ∈ x.scores, I64 y) := Lib.hid hok.sco.2
  have HH12 := Lib.hid hb12
  have HH13 := Lib.hid hb13
  have HOL := Lib.hid (own_mono hol (HX12.out.trans HX7'.out).size)
  have HOS := Lib.hid (own_mono hos (HX12.out.trans HX7'.out).size)
  have HVL : Hid (1 ≤ x.scores.length ∧ x.scores.length ≤ 15) := Lib.hid (by have := HVS.out.1; omega)
  clear hok hsl hb12 hb13 hol hos hx8 HT7 HX7' HB7 HC7 HW7 HOB6 hv1
  have HCY := Lib.hid (fun W (hx : Ext w8 W) => law_copied start gin gout bl a7 c7 x.scores s7 d7 x.won W (BedA.own (OwnD.ext HOL.out hx) HI64.out) (BedA.ownI (own_chg HOS.out (hx.chg fun _ => False) fun _ _ => id) HSI.out) (by omega) (by have := HVL.out; omega))
  have g0 := HH13.out.cell 0 (v := .int .i64 start) rfl
  have g1 := HH13.out.cell 1 (v := .int .i64 gin) rfl
  have g2 := HH13.out.cell 2 (v := .int .i64 gout) rfl
  have g3 := HH13.out.cell 3 (v := .slice a7 bl.length c7) rfl
  have g4 := HH13.out.cell 4 (v := .slice s7 x.scores.length d7) rfl
  have g5 := HH13.out.cell 5 (v := .bool x.won) rfl
  have gl := HH13.out.lt
  go_wp2_with fail
  refine (HCY.out _ (Ext.refl _)).mono ?_
  rintro e w9 ⟨ia, ic, ja, jc, rfl, hO1, hO2, hx9⟩
  have HX9 := Lib.hid hx9
  clear g0 g1 g2 g3 g4 g5 gl
  obtain ⟨T, hTT⟩ : ∃ T, legT 100 (Tld.leg bl (Tld.mk start gin gout vs x)) ((goT start x.scores x.won x.scores.length).map (fun s => spnF (allOf gin gout bl s))) (oneMore tot0) x.scores.length = T := ⟨_, rfl⟩
  have hTS : ofS 100 [Tld.leg bl (Tld.mk start gin gout vs x)] = (T, 0, 0) := by
    have hv := (vst_thrown HLAW.out HRUN.out (by have := HVS.out.1; have := HTX.out.sco; have := HVL.out; omega)).2.2
    unfold ofS
    rw [if_neg (by simp)]
    show (if (vstF (Tld.leg bl (Tld.mk start gin gout vs x))).2.2 = 0 then _ else _) = _
    have hv' : vstF (Tld.leg bl (Tld.mk start gin gout vs x)) = ((goT start x.scores x.won x.scores.length).map (fun s => spnF (allOf gin gout bl s)), 0, 0) := hv
    rw [hv']
    dsimp only
    rw [if_pos rfl]
    show (legT 100 (Tld.leg bl (Tld.mk start gin gout vs x)) ((goT start x.scores x.won x.scores.length).map (fun s => spnF (allOf gin gout bl s))) (oneMore tot0) x.scores.length, 0, 0) = _
    rw [hTT]
  obtain ⟨T', hT', hM, hTB⟩ := tot_sum (bl := bl) (ds := [Tld.mk start gin gout vs x]) (fun d hd => by rw [List.mem_singleton.1 hd]; exact HOK.out) (by simp)
  obtain rfl : T = T' := by
    rw [show [Tld.mk start gin gout vs x].map (Tld.leg bl) = [Tld.leg bl (Tld.mk start gin gout vs x)] from rfl, hTS] at hT'
    cases hT'
    rfl
  have HTS := Lib.hid hTS
  have HTT := Lib.hid hTT
  have HAV := Lib.hid (avg_in hM hTB (by have h := sum_vis (bl := bl) (ds := [Tld.mk start gin gout vs x]) (fun d hd => by rw [List.mem_singleton.1 hd]; exact HOK.out); simpa using h))
  have HMM := Lib.hid hM
  have HTBN := Lib.hid hTB
  have HLG := Lib.hid (fun W (n9 : Nat) (hx : Ext w9 W) (hb : Blk W n9 #[.int .i64 start, .int .i64 gin, .int .i64 gout, .slice ia bl.length ic, .slice ja x.scores.length jc, .bool x.won]) => mean_Totals [Tld.leg bl (Tld.mk start gin gout vs x)] (some ⟨n9, 0, none⟩) 1 W (fun i hi => by
      obtain rfl : i = 0 := by simpa using hi
      refine ⟨n9, 0, ia, ja, ic, jc, rfl, fun j u hu => ?_, ⟨(OwnD.ext hO1 hx).rd (fun _ _ h => h), RdI.of_own (own_chg hO2 (hx.chg fun _ => False) fun _ _ => id) (fun _ _ h => h), HI64.out, HSI.out, ⟨by show _ ≤ start; omega, by show start ≤ _; omega⟩⟩⟩
      have h := hb.cell j (v := u) (by rw [← Array.getElem?_toList]; exact hu)
      simpa using h) (by simp))
  rw [HTS.out] at HLG
  clear hTT hTS hT' hM hTB hx9
  obtain ⟨tlg, twn, tvi, tpt, ⟨tdl, tdh⟩, ⟨ttl, tth⟩, tto, thi, ttp, tbe⟩ := T
  unfold Tot.cells at HLG
  dsimp only at HLG
  go_wp2_with fail
  refine (HLG.out _ w9.heap.size ((Ext.refl w9).alloc _) (Blk.new _ _ _)).mono ?_
  rintro e w10 ⟨rfl, hx10⟩
  have HX10 := Lib.hid (HX9.out.trans (((Ext.refl w9).alloc (.cells #[.int .i64 start, .int .i64 gin, .int .i64 gout, .slice ia bl.length ic, .slice ja x.scores.length jc, .bool x.won] 28)).trans hx10))
  clear hx10 HLG
  go_upto_region 5 with fail
  generalize hw11 : World.alloc w10 _ = w11
  obtain ⟨kS, hkS⟩ : ∃ y, y = w10.heap.size := ⟨_, rfl⟩
  rw [← hkS]
  have HT11 : Hid (Blk w11 kS #[.int .i64 tlg, .int .i64 twn, .int .i64 tvi, .int .i64 tpt, .int .i64 tdl, .int .i64 tdh, .int .i64 ttl, .int .i64 tth, .int .i64 tto, .int .i64 thi, .int .i64 ttp, .int .i64 tbe]) := Lib.hid (by rw [← hw11, hkS]; exact Blk.new _ _ _)
  have HX1011 : Hid (Ext w10 w11) := Lib.hid (by rw [← hw11]; exact (Ext.refl _).alloc _)
  have HX11 := Lib.hid (HX10.out.trans HX1011.out)
  clear hw11 hkS HX1011
  go_upto_region 7 with fail
  have hae : avgS ⟨tlg, twn, tvi, tpt, ⟨tdl, tdh⟩, ⟨ttl, tth⟩, tto, thi, ttp, tbe⟩ = (⟨fracS (3 * tpt) tdh, fracS (3 * tpt) tdl⟩, 0) := by
    have h0 := HAV.out.1
    unfold avgS at h0 ⊢
    dsimp only at h0 ⊢
    split at h0
    · exact absurd h0 (by decide)
    · rename_i h1
      rw [if_neg h1]
      split at h0
      · exact absurd h0 (by decide)
      · rename_i h2
        rw [if_neg h2]
  have hma := fun W => mean_Average ⟨tlg, twn, tvi, tpt, ⟨tdl, tdh⟩, ⟨ttl, tth⟩, tto, thi, ttp, tbe⟩ W
  rw [hae] at hma
  unfold Tot.agg Ran.agg at hma
  dsimp only at hma
  obtain ⟨⟨al, ad⟩, hal⟩ : ∃ y, fracS (3 * tpt) tdh = y := ⟨_, rfl⟩
  obtain ⟨⟨ah, ae⟩, hah⟩ : ∃ y, fracS (3 * tpt) tdl = y := ⟨_, rfl⟩
  rw [hal, hah] at hma
  have HFR := Lib.hid (And.intro hal hah)
  have HMA := Lib.hid hma
  clear hae hma hal hah
  have t0 := HT11.out.cell 0 (v := .int .i64 tlg) rfl
  have t1 := HT11.out.cell 1 (v := .int .i64 twn) rfl
  have t2 := HT11.out.cell 2 (v := .int .i64 tvi) rfl
  have t3 := HT11.out.cell 3 (v := .int .i64 tpt) rfl
  have t4 := HT11.out.cell 4 (v := .int .i64 tdl) rfl
  have t5 := HT11.out.cell 5 (v := .int .i64 tdh) rfl
  have t6 := HT11.out.cell 6 (v := .int .i64 ttl) rfl
  have t7 := HT11.out.cell 7 (v := .int .i64 tth) rfl
  have t8 := HT11.out.cell 8 (v := .int .i64 tto) rfl
  have t9 := HT11.out.cell 9 (v := .int .i64 thi) rfl
  have t10 := HT11.out.cell 10 (v := .int .i64 ttp) rfl
  have t11 := HT11.out.cell 11 (v := .int .i64 tbe) rfl
  have tl := HT11.out.lt
  go_wp2_with fail
  refine (HMA.out _).mono ?_
  rintro e w12 ⟨rfl, hx12⟩
  have HT12 := Lib.hid (HT11.out.ext hx12)
  have HX12' := Lib.hid (HX11.out.trans hx12)
  clear hx12 t0 t1 t2 t3 t4 t5 t6 t7 t8 t9 t10 t11 tl
  go_upto_region 8 with fail
  generalize hw13 : World.alloc w12 _ = w13
  obtain ⟨kA, hkA⟩ : ∃ y, y = w12.heap.size := ⟨_, rfl⟩
  rw [← hkA]
  have HA13 : Hid (Blk w13 kA #[.int .i64 al, .int .i64 ad, .int .i64 ah, .int .i64 ae]) := Lib.hid (by rw [← hw13, hkA]; exact Blk.new _ _ _)
  have HX1213 : Hid (Ext w12 w13) := Lib.hid (by rw [← hw13]; exact (Ext.refl _).alloc _)
  have HX13 := Lib.hid (HX12'.out.trans HX1213.out)
  have HT13 := Lib.hid (HT12.out.ext HX1213.out)
  clear hw13 hkA HX1213
  go_wp2
  go_loopw [15] (fun i wr => ∃ en : Nat, (1 ≤ en ∧ en ≤ 5) ∧ i = .int .i64 en ∧ Ext w13 wr) (fun i _ => 5 - (intOf i).toNat)
  case atStart => exact ⟨1, by omega, rfl, Ext.refl _⟩
  case round =>
    obtain ⟨en, hen, rfl, hx⟩ := hrel
    obtain ⟨w14, rfl⟩ : ∃ y, y = wr := ⟨_, rfl⟩
    have HX14 := Lib.hid hx
    clear hx
    by_cases he4 : en ≤ 4
    case neg =>
      obtain rfl : en = 5 := by omega
      go_wp2_with fail
      refine (HK.out _).mono ?_
      rintro e wz ⟨rfl, hxz⟩
      go_wp2
      go_ret
      exact ⟨rfl, (HX8.out.trans (HX13.out.trans HX14.out)).trans hxz⟩
    case pos =>
    have he5 : (en : Int) ≤ 4 := by omega
    have HXE := Lib.hid (HX13.out.trans HX14.out)
    have HPT : Hid (tpt = x.t.points) := Lib.hid (by
      have h := HMM.out.pts
      simpa [sumD, tot0, Tld.pts] using h)
    go_upto_block 1 with fail
    refine ends_round _ (by kernel_rfl) bl hbl HI64 start gin gout hstb vs x HOK HVL lb lo lc k4 k13 kS kA a7 s7 c7 d7 _ en ⟨hen.1, he4⟩ w14 (Lib.hid (HC8.out.ext HXE.out)) (Lib.hid (HH13.out.ext HXE.out)) (Lib.hid (OwnD.ext HOB8.out HXE.out)) (Lib.hid (OwnD.ext HOL.out HXE.out)) (Lib.hid (own_chg HOS.out (HXE.out.chg fun _ => False) fun _ _ => id)) tlg twn tvi tpt tdl tdh ttl tth tto thi ttp tbe al ad ah ae (Lib.hid (HT13.out.ext HX14.out)) (Lib.hid (HA13.out.ext HX14.out)) HTT HPT HFR _ ?_
    intro r2 r16 r17 r18 r19 r20 r21 r22 r23 r24 r25 r66 r67 r68 r69 r70 r71 r72 r73 r74 r75 r76 r77 r78 r79 r80 r81 r82 r83 r84 r85 r86 r87 r88 r89 r90 r91 r92 r93 r94 r95 r96 r97 r98 r99 r100 r101 r102 r103 r104 r105 r106 r107 r108 r109 r110 r111 r112 r113 r114 r115 r116 r117 r118 r119 r120 r121 r122 r123 r124 r125 r126 r127 r128 r129 r130 r131 r132 r133 r134 r135 r136 r137 r138 r139 r140 r141 r142 r143 r144 r145 r146 r147 r148 r149 r150 r151 r152 r153 r154 r155 r156 r157 r158 r159 r160 r161 r162 r163 r164 r165 r166 r167 r168 r169 r170 r171 r172 r173 r174 r175 r176 r177 r178 r179 r180 r181 r182 r183 r184 r185 r186 r187 r188 r189 r190 r191 r192 r193 r194 r195 r196 r197 r198 r199 r200 r201 r202 r203 r204 r205 r206 wx hxx
    rename_i K0 a0
    refine a0 _ _ ?_
    go_wp2
    go_roundw
    case rel => exact ⟨en + 1, by omega, by simp, HX14.out.trans hxx⟩
    case measure => simp [intOf]; omega
end Go.Proofs.Ytmopadnkjlodnaa
