/-
  MeanTruths, walked.
-/
import Derived.Test.YtmopadnkjlodnaaNte
import Derived.Test.YtmopadnkjlodnaaNty
import Derived.Test.YtmopadnkjlodnaaNtg
import Derived.Test.YtmopadnkjlodnaaLmb
import Derived.Deep.CutBlock
import Derived.Deep.DeepCutAuto
namespace Go.Proofs.Ytmopadnkjlodnaa
open Go.RowKit Go.BigFrame
attribute [local go_sem] Later.cell Later.frozen Lat.cell Lat.frozen NoX
set_option maxRecDepth 100000 in
set_option maxHeartbeats 16000000 in
theorem law_truths (HK : Hid Knows) (n : Nt) (ba sa ha : Option Addr) (bc sc hc : Nat) (w : World) (hA : NtA n ba sa ha w) :
    Calls Try.prog 8 #[.agg (n.cells ba sa ha bc sc hc)] w fun e w' => e = .returned (.bool true) ∧ Ext w w' := by
  have HA := Lib.hid hA
  clear hA
  unfold Nt.cells
  go_enter Try.func8, Try.ntmps8
  go_upto_region 1 with fail
  generalize hw1 : World.alloc w _ = w1
  obtain ⟨k1, hk1⟩ : ∃ y, y = w.heap.size := ⟨_, rfl⟩
  rw [← hk1]
  have HB1 : Hid (Blk w1 k1 #[.slice ba n.beds.length bc, .slice sa n.starts.length sc, .int .u8 n.gates, .slice ha n.hits.length hc]) := Lib.hid (by rw [← hw1, hk1]; exact Blk.new _ _ _)
  have HX1 : Hid (Ext w w1) := Lib.hid (by rw [← hw1]; exact (Ext.refl w).alloc _)
  clear hw1 hk1
  have HNB := Lib.hid (fun W (hx : Ext w W) => night_board n ba sa ha bc sc hc W (HA.out.ext hx))
  have HNC := Lib.hid (fun W (hx : Ext w W) i => night_count n ba sa ha bc sc hc i W (HA.out.ext hx))
  have HNT := Lib.hid (fun W (hx : Ext w W) => fun la lc bl start gin gout at_ => night_tale n ba sa ha la bc sc hc lc bl start gin gout at_ W (HA.out.ext hx))
  unfold Nt.cells at HNB HNC HNT
  have c0 := HB1.out.cell 0 (v := .slice ba n.beds.length bc) rfl
  have c1 := HB1.out.cell 1 (v := .slice sa n.starts.length sc) rfl
  have c2 := HB1.out.cell 2 (v := .int .u8 n.gates) rfl
  have c3 := HB1.out.cell 3 (v := .slice ha n.hits.length hc) rfl
  have cl := HB1.out.lt
  go_wp2_with fail
  refine (HNB.out _ HX1.out).mono ?_
  rintro e w2 ⟨la, lc, bl, rfl, hO, hbb, hbl, hx2⟩
  have HX2 := Lib.hid (HX1.out.trans hx2)
  have HB2 := Lib.hid (HB1.out.ext hx2)
  have HOB := Lib.hid hO
  have HBB := Lib.hid hbb
  have HI64 : Hid (∀ b ∈ bl, I64 b) := Lib.hid (fun b hb => by
    obtain ⟨i, hi, rfl⟩ := List.mem_iff_getElem.1 hb
    have h := (BedOk.parts (.inr ((bedsB_iff bl).1 hbb i hi hi).1)).1
    exact ⟨by omega, by omega⟩)
  obtain ⟨lb, lo, rfl, -⟩ := hO.at0 0 (by omega)
  clear hx2 hO hbb c0 c1 c2 c3 cl
  obtain ⟨N, hN⟩ : ∃ N, 1 + n.starts.length % 4 = N := ⟨_, rfl⟩
  have HN := Lib.hid hN
  have hN4 : 1 ≤ N ∧ N ≤ 4 := by omega
  clear hN
  go_wp2
  rename_i K0 b0
  go_loopw [4, 5, 6, 7, 8, 9] (fun l a b c d i wr => ∃ (k : Nat) (ds : List Tld) (lv : Value), k ≤ N ∧ ds.length = k ∧ lv = l ∧ i = .int .i64 k ∧ a = .int .i64 (sumD Tld.drt ds) ∧ b = .int .i64 (sumD Tld.tri ds) ∧ c = .int .i64 (sumD Tld.won ds) ∧ d = .int .i64 (sumD Tld.pts ds) ∧ LgsO wr w2.heap.size lv (ds.map (Tld.leg bl)) ∧ (∀ d ∈ ds, d.ok bl) ∧ Ext w2 wr) (fun _ _ _ _ _ i _ => N - (intOf i).toNat)
  case atStart => exact ⟨0, [], _, Nat.zero_le _, rfl, rfl, rfl, rfl, rfl, rfl, rfl, ⟨[], own_empty rfl (Nat.le_refl _), rfl, fun i hi => absurd hi (by simp)⟩, (fun d hd => by cases hd), (Ext.refl w2).alloc _⟩
  case round =>
    obtain ⟨k, ds, lv, hk, hdk, rfl, rfl, rfl, rfl, rfl, rfl, hL, hD, hx⟩ := hrel
    obtain ⟨w3, rfl⟩ : ∃ y, y = wr := ⟨_, rfl⟩
    have HL := Lib.hid hL
    have HD := Lib.hid hD
    have HX3 := Lib.hid hx
    have HDK := Lib.hid hdk
    obtain ⟨sd, hsd⟩ : ∃ y, sumD Tld.drt ds = y := ⟨_, rfl⟩
    obtain ⟨st, hst⟩ : ∃ y, sumD Tld.tri ds = y := ⟨_, rfl⟩
    obtain ⟨sw, hsw⟩ : ∃ y, sumD Tld.won ds = y := ⟨_, rfl⟩
    obtain ⟨sp, hsp⟩ : ∃ y, sumD Tld.pts ds = y := ⟨_, rfl⟩
    have HSE := Lib.hid (And.intro hsd (And.intro hst (And.intro hsw hsp)))
    rw [hsd, hst, hsw, hsp]
    clear hL hD hx hdk hsd hst hsw hsp
    have HB3 := Lib.hid (HB2.out.ext HX3.out)
    have c0 := HB3.out.cell 0 (v := .slice ba n.beds.length bc) rfl
    have c1 := HB3.out.cell 1 (v := .slice sa n.starts.length sc) rfl
    have c2 := HB3.out.cell 2 (v := .int .u8 n.gates) rfl
    have c3 := HB3.out.cell 3 (v := .slice ha n.hits.length hc) rfl
    have cl := HB3.out.lt
    have HLN := Lib.hid HA.out.ls
    have hNi : 1 + (n.starts.length : Int) % 4 = (N : Int) := by have := HN.out; omega
    by_cases hkN : k < N
    case neg =>
      obtain rfl : k = N := by omega
      have hkN' : ¬ (k : Int) < (k : Int) := by omega
      obtain ⟨ga, gc, hgc⟩ := HL.out.shape
      have hlm : (ds.map (Tld.leg bl)).length = k := by rw [List.length_map, HDK.out]
      rw [hlm] at hgc
      subst hgc
      go_upto_if 32 with fail
      refine wp_cond_false rfl ?_
      refine wp_exit ?_
      refine b0 _ _ ?_
      exact truths_end _ (by kernel_rfl) HK w w2 w3 bl hbl HI64 ds k hN4 HDK HD ga gc HL HX2 HX3 sd st sw sp HSE
    case pos =>
    have hkN' : (k : Int) < (N : Int) := by omega
    go_upto_region 5 with fail
    clear hNi
    go_wp2_with fail
    refine (HNC.out _ (HX2.out.trans HX3.out) k).mono ?_
    rintro e w4 ⟨start, gin, gout, rfl, hstb, hgi, hgo, hx4⟩
    have HX4 := Lib.hid (HX3.out.trans hx4)
    have HB4 := Lib.hid (HB3.out.ext hx4)
    have HL4 := Lib.hid (HL.out.ext hx4)
    clear hx4 c0 c1 c2 c3 cl HL HB3
    go_upto_region 6 with fail
    generalize hw5 : World.alloc w4 _ = w5
    obtain ⟨k10, hk10⟩ : ∃ y, y = w4.heap.size := ⟨_, rfl⟩
    rw [← hk10]
    have HC5 : Hid (Blk w5 k10 #[.int .i64 start, .int .i64 gin, .int .i64 gout]) := Lib.hid (by rw [← hw5, hk10]; exact Blk.new _ _ _)
    have HX45 : Hid (Ext w4 w5) := Lib.hid (by rw [← hw5]; exact (Ext.refl _).alloc _)
    clear hw5 hk10
    have HX5 := Lib.hid (HX4.out.trans HX45.out)
    have HB5 := Lib.hid (HB4.out.ext HX45.out)
    have HL5 := Lib.hid (HL4.out.ext HX45.out)
    clear HX45 HB4 HL4
    have c0 := HB5.out.cell 0 (v := .slice ba n.beds.length bc) rfl
    have c1 := HB5.out.cell 1 (v := .slice sa n.starts.length sc) rfl
    have c2 := HB5.out.cell 2 (v := .int .u8 n.gates) rfl
    have c3 := HB5.out.cell 3 (v := .slice ha n.hits.length hc) rfl
    have cl := HB5.out.lt
    have q0 := HC5.out.cell 0 (v := .int .i64 start) rfl
    have q1 := HC5.out.cell 1 (v := .int .i64 gin) rfl
    have q2 := HC5.out.cell 2 (v := .int .i64 gout) rfl
    have ql := HC5.out.lt
    have HOB5 := Lib.hid (OwnD.ext HOB.out HX5.out)
    have hat3 : 3 * k ≤ 1000 := by omega
    have HTL := Lib.hid (HNT.out w5 (HX2.out.trans HX5.out) (some ⟨lb, lo, none⟩) lc bl start gin gout (3 * k) HOB5.out.at0 HBB.out hbl hstb hgi hgo hat3)
    go_wp2_with fail
    refine HTL.out.mono ?_
    rintro e w6 ⟨vs, x, vv, rfl, hW, hrun, htx, hvs, hmem, hx6⟩
    obtain ⟨va, vc, rfl⟩ := hW.shape
    have HX6 := Lib.hid (HX5.out.trans hx6)
    have HB6 := Lib.hid (HB5.out.ext hx6)
    have HC6 := Lib.hid (HC5.out.ext hx6)
    have HL6 := Lib.hid (HL5.out.ext hx6)
    have HW6 := Lib.hid hW
    have HRUN := Lib.hid hrun
    have HTX := Lib.hid htx
    have HVS := Lib.hid hvs
    have HMEM := Lib.hid hmem
    clear hx6 hW hrun htx hvs hmem c0 c1 c2 c3 cl q0 q1 q2 ql HTL HB5 HC5 HL5 HOB5
    have HLAW : Hid (lawsB start gin gout bl = true) := Lib.hid (by
      unfold lawsB
      rw [HBB.out]
      simp only [Bool.true_and, Bool.and_eq_true]
      exact ⟨⟨ins_one.2 (by omega), by unfold ins out1; simp; omega⟩, ins_one.2 (by omega)⟩)
    have HEF : Hid (exaF start gin gout bl vs = .inl x) := Lib.hid (by
      rw [exa_ref]
      unfold rxF
      rw [if_neg (by rw [HLAW.out]; decide), if_neg (by have := HVS.out; omega)]
      exact HRUN.out)
    have HVI : Hid (∀ v ∈ vs, v.length ≤ 1000 ∧ ∀ y ∈ v, I64 y) := Lib.hid (fun v hv => by
      obtain ⟨h1, h2⟩ := HMEM.out v hv
      exact ⟨by omega, fun y hy => by have := (h2 y hy).parts.1; exact ⟨by omega, by omega⟩⟩)
    go_upto_region 7 with fail
    generalize hw7 : World.alloc w6 _ = w7
    obtain ⟨k11, hk11⟩ : ∃ y, y = w6.heap.size := ⟨_, rfl⟩
    rw [← hk11]
    have HT7 : Hid (Blk w7 k11 #[.slice va vs.length vc, .int .i64 x.t.points, .int .i64 x.t.darts.lo, .int .i64 x.t.tried.lo, .bool x.won]) := Lib.hid (by rw [← hw7, hk11]; exact Blk.new _ _ _)
    have HX67 : Hid (Ext w6 w7) := Lib.hid (by rw [← hw7]; exact (Ext.refl _).alloc _)
    have HKL : Hid (∀ q, lv.ownBlock = some q → q < k11) := Lib.hid (fun q hq => by obtain ⟨_, h1, -⟩ := HL6.out; have h2 := (World.ownsRow.lt h1 q hq).2; omega)
    clear hw7 hk11
    have HX7' := Lib.hid (HX6.out.trans HX67.out)
    have HB7 := Lib.hid (HB6.out.ext HX67.out)
    have HC7 := Lib.hid (HC6.out.ext HX67.out)
    have HL7 := Lib.hid (HL6.out.ext HX67.out)
    have HW7 := Lib.hid (HW6.out.ext HX67.out)
    clear HX67 HB6 HC6 HL6 HW6
    have HOB6 := Lib.hid (OwnD.ext HOB.out HX7'.out)
    have HCP := Lib.hid (fun W (hx : Ext w7 W) => law_copies vs va vc W (by
      obtain ⟨a', c', e', h'⟩ := ways_vsa (HW7.out.ext hx) (fun v hv => (HVI.out v hv).2)
      cases e'
      exact h') (by have := HVS.out; omega) (fun v hv => (HVI.out v hv).1))
    have HEX : Hid (∀ W (a3 : Option Addr) (c3 : Nat) (a6 : Option Addr) (c6 : Nat), OwnD W w7.heap.size (.slice a3 bl.length c3) bl → WaysAt W w7.heap.size (.slice a6 vs.length c6) vs → Calls Try.prog 30 #[.agg #[.int .i64 start, .int .i64 gin, .int .i64 gout], .slice a3 bl.length c3, .slice a6 vs.length c6] W fun e w' => (∃ la lc sa sc, e = .returned (.tuple #[.agg x.t.cells, .agg #[.int .i64 start, .int .i64 gin, .int .i64 gout, .slice la bl.length lc, .slice sa x.scores.length sc, .bool x.won], .int .i64 0, .int .i64 0]) ∧ OwnD w' W.heap.size (.slice la bl.length lc) bl ∧ OwnI w' W.heap.size (.slice sa x.scores.length sc) x.scores) ∧ Ext W w') := Lib.hid (fun W a3 c3 a6 c6 h3 h6 => by
      obtain ⟨a', c', e', h'⟩ := ways_vsa h6 (fun v hv => (HVI.out v hv).2)
      cases e'
      refine (mean_Exact start gin gout bl a3 c3 vs a6 c6 W ⟨by omega, by omega⟩ (h3.rd (fun _ _ h => h)) HI64.out (h'.vss (fun v hv => (HVI.out v hv).1)) (by have := HVS.out; omega)).mono ?_
      rintro e w' ⟨h1, h2⟩
      rw [HEF.out] at h1
      exact ⟨h1, h2⟩)
    unfold Tot.cells at HEX
    have m0 : ∀ y : Lat NoX w7, y.world.cell? ⟨k10, 0, none⟩ = some (.int .i64 start) := fun y => (HC7.out.ext (Lat.ext0 y)).cell 0 rfl
    have m1 : ∀ y : Lat NoX w7, y.world.cell? ⟨k10, 1, none⟩ = some (.int .i64 gin) := fun y => (HC7.out.ext (Lat.ext0 y)).cell 1 rfl
    have m2 : ∀ y : Lat NoX w7, y.world.cell? ⟨k10, 2, none⟩ = some (.int .i64 gout) := fun y => (HC7.out.ext (Lat.ext0 y)).cell 2 rfl
    have ml := HC7.out.lt
    have t0 : ∀ y : Lat NoX w7, y.world.cell? ⟨k11, 0, none⟩ = some (.slice va vs.length vc) := fun y => (HT7.out.ext (Lat.ext0 y)).cell 0 rfl
    have t1 : ∀ y : Lat NoX w7, y.world.cell? ⟨k11, 1, none⟩ = some (.int .i64 x.t.points) := fun y => (HT7.out.ext (Lat.ext0 y)).cell 1 rfl
    have t2 : ∀ y : Lat NoX w7, y.world.cell? ⟨k11, 2, none⟩ = some (.int .i64 x.t.darts.lo) := fun y => (HT7.out.ext (Lat.ext0 y)).cell 2 rfl
    have t3 : ∀ y : Lat NoX w7, y.world.cell? ⟨k11, 3, none⟩ = some (.int .i64 x.t.tried.lo) := fun y => (HT7.out.ext (Lat.ext0 y)).cell 3 rfl
    have t4 : ∀ y : Lat NoX w7, y.world.cell? ⟨k11, 4, none⟩ = some (.bool x.won) := fun y => (HT7.out.ext (Lat.ext0 y)).cell 4 rfl
    have tl := HT7.out.lt
    go_cut [12, 13, 14, 15] (fun p q a e wx => ∃ (k12 k13 : Nat) (a7 : Option Addr) (c7 : Nat) (s7 : Option Addr) (d7 : Nat), p = .pointer (some ⟨k12, 0, none⟩) ∧ q = .pointer (some ⟨k13, 0, none⟩) ∧ a = .int .i64 0 ∧ e = .int .i64 0 ∧ Blk wx k12 #[.int .i64 x.t.legs, .int .i64 x.t.won, .int .i64 x.t.visits, .int .i64 x.t.points, .int .i64 x.t.darts.lo, .int .i64 x.t.darts.hi, .int .i64 x.t.tried.lo, .int .i64 x.t.tried.hi, .int .i64 x.t.tons, .int .i64 x.t.highs, .int .i64 x.t.tops, .int .i64 x.t.best] ∧ Blk wx k13 #[.int .i64 start, .int .i64 gin, .int .i64 gout, .slice a7 bl.length c7, .slice s7 x.scores.length d7, .bool x.won] ∧ OwnD wx w7.heap.size (.slice a7 bl.length c7) bl ∧ OwnI wx w7.heap.size (.slice s7 x.scores.length d7) x.scores ∧ Ext w7 wx)
    case first =>
      refine wp_region_lat (by kernel_rfl) NoX (fun k => (k == 1) || ((k == 3) || ((k == 6) || ((k == 7) || ((k == 13) || ((k == 14) || ((k == 15) || (k == 16)))))))) (R7 bl vs start gin gout x) (G7 w7.heap.size bl vs start gin gout x) (by kernel_rfl)
        (fun k hk => by
          simp only [Bool.or_eq_true, beq_iff_eq] at hk
          rcases hk with rfl | rfl | rfl | rfl | rfl | rfl | rfl | rfl <;> decide)
        (fun L L' u w' h hg => hg.congr (h 3 rfl) (h 6 rfl) (h 7 rfl) (h 13 rfl) (h 14 rfl) (h 15 rfl) (h 16 rfl) rfl rfl rfl rfl rfl) (fun L u a b h hx => h.ext hx) (w7W bl vs start gin gout x) (fun k _ => w7W_ok _ _ _ _ _ _ k) ⟨fun h => absurd h (by decide), fun h => absurd h (by decide), fun h => absurd h (by decide), fun h => absurd h (by decide), fun h => absurd h (by decide)⟩ ?_
      intro T hT hne2 u hu
      obtain ⟨b1, e_1⟩ := (hu 1 rfl).1 rfl
      obtain ⟨a3, c3, e_3⟩ := (hu 3 rfl).2.1 rfl
      obtain ⟨a6, c6, e_6⟩ := (hu 6 rfl).2.2.1 rfl
      obtain ⟨a7, c7, s7, d7, e_7⟩ := (hu 7 rfl).2.2.2.1 rfl
      obtain ⟨k12, e_13⟩ := (hu 13 rfl).2.2.2.2.1 rfl
      obtain ⟨k13, e_14⟩ := (hu 14 rfl).2.2.2.2.2 rfl
      unfold ExaV Tot.cells at e_7
      refine lx_next 1 (by rfl) (by decide) ?_
      dsimp only [List.take, List.drop]
      repeat (go_big_quiet_step (fail))
      refine wpQuiet_nil ?_
      refine lx_loud (by rfl) (by kernel_rfl) ?_ (fun K hK => ?_)
      · intro L w4 hL hd hcl hC hs
        obtain ⟨y, rfl⟩ := hC
        have HS := Lib.hid hs
        clear hs hd hcl hL
        go_wp2
        exact ⟨⟨fun _ => ⟨_, rfl⟩, fun h => absurd h (by decide), fun h => absurd h (by decide), fun h => absurd h (by decide), fun h => absurd h (by decide), fun h => absurd h (by decide)⟩, ⟨y.ext ((Ext.refl _).alloc _), rfl⟩, (HS.out.ext ((Ext.refl _).alloc _)).congr rfl rfl rfl rfl rfl rfl rfl rfl rfl rfl rfl rfl⟩
      rw [e_1]
      go_simp
      with_reducible refine hK _ ?_
      clear hK K
      refine lx_next 1 (by rfl) (by decide) ?_
      dsimp only [List.take, List.drop]
      repeat (go_big_quiet_step (fail))
      refine wpQuiet_nil ?_
      refine lx_loud (by rfl) (by kernel_rfl) ?_ (fun K hK => ?_)
      · intro L w4 hL hd hcl hC hs
        obtain ⟨y, rfl⟩ := hC
        have HS := Lib.hid hs
        have hyx := Lat.ext0 y
        have HYX := Lib.hid hyx
        clear hs hd hcl hL hyx
        go_wp2_with (at_builtin; refine wp_append_new rfl _ _ 25 99 _ 1 8 rfl info_bed (by kernel_rfl) rfl (by decide) ⟨b1, 0, none⟩ rfl ⟨lb, lo, none⟩ bl.length lc (bl.map (Value.int .i64)) rfl (by simp) (CellsAt.vals (OwnD.ext HOB6.out HYX.out).at0 _ rfl) (by omega) (by omega) (by omega) ?_)
        intro v' w5 hO' hx'
        have hO2 : OwnD w5 y.world.heap.size v' bl := by exact hO'
        obtain ⟨av, ac, rfl⟩ := hO2.shape
        have HO2 := Lib.hid hO2
        have HXX := Lib.hid hx'
        clear hO' hx' hO2
        go_wp2
        have h := HS.out.ext HXX.out
        exact ⟨⟨fun h => absurd h (by decide), fun _ => ⟨_, _, rfl⟩, fun h => absurd h (by decide), fun h => absurd h (by decide), fun h => absurd h (by decide), fun h => absurd h (by decide)⟩, ⟨y.ext HXX.out, rfl⟩, ⟨fun _ _ => own_mono HO2.out HYX.out.size, h.vis, h.exa, h.b12, h.b13⟩⟩
      rw [e_3]
      go_simp
      with_reducible refine hK _ ?_
      clear hK K
      refine lx_next 2 (by rfl) (by decide) ?_
      dsimp only [List.take, List.drop]
      repeat (go_big_quiet_step (fail))
      refine wpQuiet_nil ?_
      refine lx_loud (by rfl) (by kernel_rfl) ?_ (fun K hK => ?_)
      · intro L w4 hL hd hcl hC hs
        obtain ⟨y, rfl⟩ := hC
        have HS := Lib.hid hs
        have HYX := Lib.hid (Lat.ext0 y)
        clear hs hd hcl hL
        go_wp2_with fail
        refine (HCP.out _ HYX.out).mono ?_
        rintro e w5 ⟨v', rfl, hw5, hx'⟩
        obtain ⟨av, ac, rfl⟩ := hw5.shape
        have HW5 := Lib.hid hw5
        have HXX := Lib.hid hx'
        clear hw5 hx'
        go_wp2
        have h := HS.out.ext HXX.out
        exact ⟨⟨fun h => absurd h (by decide), fun h => absurd h (by decide), fun _ => ⟨_, _, rfl⟩, fun h => absurd h (by decide), fun h => absurd h (by decide), fun h => absurd h (by decide)⟩, ⟨y.ext HXX.out, rfl⟩, ⟨h.app, fun _ _ => HW5.out.mono HYX.out.size, h.exa, h.b12, h.b13⟩⟩
      rw [e_6]
      go_simp
      with_reducible refine hK _ ?_
      clear hK K
      refine lx_loud (by rfl) (by kernel_rfl) ?_ (fun K hK => ?_)
      · intro L w4 hL hd hcl hC hs
        obtain ⟨y, rfl⟩ := hC
        have h3 := hs.app (hd 3 (by kernel_rfl)) hL
        have h6 := hs.vis (hd 6 (by kernel_rfl)) hL
        rw [e_3] at h3
        rw [e_6] at h6
        have HYX := Lib.hid (Lat.ext0 y)
        have HCX := Lib.hid (HEX.out y.world a3 c3 a6 c6 h3 h6)
        have HS := Lib.hid hs
        have H16 := Lib.hid (hcl.off hL 40 16 (by kernel_rfl))
        clear hs hd hcl hL h3 h6
        go_wp2_with fail
        refine HCX.out.mono ?_
        rintro e w5 ⟨⟨l1, l2, l3, l4, rfl, m2, m3⟩, hx'⟩
        have HM2 := Lib.hid m2
        have HM3 := Lib.hid m3
        have HXX := Lib.hid hx'
        clear m2 m3 hx'
        go_wp2
        have h := HS.out.ext HXX.out
        exact ⟨⟨fun h => absurd h (by decide), fun h => absurd h (by decide), fun h => absurd h (by decide), fun _ => ⟨_, _, _, _, rfl⟩, fun h => absurd h (by decide), fun h => absurd h (by decide)⟩, ⟨y.ext HXX.out, rfl⟩, ⟨fun _ h => Bool.noConfusion (show true = false from h), fun _ h => Bool.noConfusion (show true = false from h), fun _ => ⟨_, _, _, _, rfl, own_mono HM2.out HYX.out.size, own_mono HM3.out HYX.out.size⟩, h.b12, fun e => by
          obtain ⟨k, g1, g2, g3⟩ := h.b13 e
          rw [H16.out] at g3
          refine ⟨k, g1, g2, ?_⟩
          show BlkT _ k (bif L 16 then _ else leg0C) _
          rw [H16.out]
          exact g3⟩⟩
      rw [e_7]
      go_simp
      with_reducible refine hK _ ?_
      clear hK K
      refine lx_next 5 (by rfl) (by decide) ?_
      dsimp only [List.take, List.drop]
      repeat (go_big_quiet_step (fail))
      refine wpQuiet_nil ?_
      refine lx_loud (by rfl) (by kernel_rfl) ?_ (fun K hK => ?_)
      · intro L w4 hL hd hcl hC hs
        obtain ⟨y, rfl⟩ := hC
        have HS := Lib.hid hs
        have HYX := Lib.hid (Lat.ext0 y)
        have H15 := Lib.hid (hcl.off hL 40 15 (by kernel_rfl))
        clear hs hd hcl hL
        go_wp2
        have h := HS.out.ext ((Ext.refl y.world).alloc (.cells tot0.cells 55))
        exact ⟨⟨fun h => absurd h (by decide), fun h => absurd h (by decide), fun h => absurd h (by decide), fun h => absurd h (by decide), fun _ => ⟨_, rfl⟩, fun h => absurd h (by decide)⟩, ⟨y.ext ((Ext.refl _).alloc _), rfl⟩, ⟨h.app, h.vis, h.exa, fun _ => ⟨_, rfl, HYX.out.size, by rw [show upd L 13 15 = L 15 from rfl, H15.out]; exact BlkT.new _ _ _⟩, h.b13⟩⟩
      rw [e_13]
      go_simp
      with_reducible refine hK _ ?_
      clear hK K
      refine lx_loud (by rfl) (by kernel_rfl) ?_ (fun K hK => ?_)
      · intro L w4 hL hd hcl hC hs
        obtain ⟨y, rfl⟩ := hC
        have HS := Lib.hid hs
        have HYX := Lib.hid (Lat.ext0 y)
        have H16 := Lib.hid (hcl.off hL 40 16 (by kernel_rfl))
        clear hs hd hcl hL
        go_wp2
        have h := HS.out.ext ((Ext.refl y.world).alloc (.cells leg0C 28))
        exact ⟨⟨fun h => absurd h (by decide), fun h => absurd h (by decide), fun h => absurd h (by decide), fun h => absurd h (by decide), fun h => absurd h (by decide), fun _ => ⟨_, rfl⟩⟩, ⟨y.ext ((Ext.refl _).alloc _), rfl⟩, ⟨h.app, h.vis, h.exa, h.b12, fun _ => ⟨_, rfl, HYX.out.size, by rw [show upd L 14 16 = L 16 from rfl, H16.out]; exact BlkT.new _ _ _⟩⟩⟩
      rw [e_14]
      go_simp
      with_reducible refine hK _ ?_
      clear hK K
      refine lx_loud (by rfl) (by kernel_rfl) ?_ (fun K hK => ?_)
      · intro L w4 hL hd hcl hC hs
        obtain ⟨y, rfl⟩ := hC
        have h13 := hd 13 (by kernel_rfl)
        have h7 := hd 7 (by kernel_rfl)
        obtain ⟨kk, ek, hk, hb⟩ := hs.b12 h13
        obtain rfl : k12 = kk := by rw [e_13] at ek; cases ek; rfl
        rw [hL] at hb
        have hb : BlkT y.world k12 #[.int .i64 0, .int .i64 0, .int .i64 0, .int .i64 0, .int .i64 0, .int .i64 0, .int .i64 0, .int .i64 0, .int .i64 0, .int .i64 0, .int .i64 0, .int .i64 0] 55 := hb
        have r0 := hb.blk.cell 0 (v := .int .i64 0) rfl
        have f0 := hb.blk.frozen 0
        have r1 := hb.blk.cell 1 (v := .int .i64 0) rfl
        have f1 := hb.blk.frozen 1
        have r2 := hb.blk.cell 2 (v := .int .i64 0) rfl
        have f2 := hb.blk.frozen 2
        have r3 := hb.blk.cell 3 (v := .int .i64 0) rfl
        have f3 := hb.blk.frozen 3
        have r4 := hb.blk.cell 4 (v := .int .i64 0) rfl
        have f4 := hb.blk.frozen 4
        have r5 := hb.blk.cell 5 (v := .int .i64 0) rfl
        have f5 := hb.blk.frozen 5
        have r6 := hb.blk.cell 6 (v := .int .i64 0) rfl
        have f6 := hb.blk.frozen 6
        have r7 := hb.blk.cell 7 (v := .int .i64 0) rfl
        have f7 := hb.blk.frozen 7
        have r8 := hb.blk.cell 8 (v := .int .i64 0) rfl
        have f8 := hb.blk.frozen 8
        have r9 := hb.blk.cell 9 (v := .int .i64 0) rfl
        have f9 := hb.blk.frozen 9
        have r10 := hb.blk.cell 10 (v := .int .i64 0) rfl
        have f10 := hb.blk.frozen 10
        have r11 := hb.blk.cell 11 (v := .int .i64 0) rfl
        have f11 := hb.blk.frozen 11
        have rl := hb.blk.lt
        have HS := Lib.hid hs
        have HBK := Lib.hid hb
        have HK0 := Lib.hid hk
        have H7 := Lib.hid h7
        clear hs hd hcl hb hk ek hL h7
        go_wp2
        have h7 := H7.out
        have hC := twl_chg (· = k12) y.world (b := k12) rfl (.int .i64 x.t.legs) (.int .i64 x.t.won) (.int .i64 x.t.visits) (.int .i64 x.t.points) (.int .i64 x.t.darts.lo) (.int .i64 x.t.darts.hi) (.int .i64 x.t.tried.lo) (.int .i64 x.t.tried.hi) (.int .i64 x.t.tons) (.int .i64 x.t.highs) (.int .i64 x.t.tops) (.int .i64 x.t.best)
        refine ⟨⟨fun h => absurd h (by decide), fun h => absurd h (by decide), fun h => absurd h (by decide), fun h => absurd h (by decide), fun h => absurd h (by decide), fun h => absurd h (by decide)⟩, ⟨y.chgd hC (fun b hb => .inl (by rw [show b = k12 from hb]; exact HK0.out)), rfl⟩, ⟨(fun _ h => by have h : L 7 = false := h; rw [h7] at h; cases h), (fun _ h => by have h : L 7 = false := h; rw [h7] at h; cases h), fun e => ?_, ?_, ?_⟩⟩
        · obtain ⟨l1, l2, l3, l4, m1, m2, m3⟩ := HS.out.exa e
          exact ⟨l1, l2, l3, l4, m1, own_chg m2 hC (fun q hq => own_neT m2 HBK.out (by decide) q hq), own_chg m3 hC (fun q hq => own_neT m3 HBK.out (by decide) q hq)⟩
        · intro _
          refine ⟨k12, e_13, HK0.out, ?_⟩
          show BlkT _ k12 x.t.cells 55
          exact twl_setT HBK.out (.int .i64 x.t.legs) (.int .i64 x.t.won) (.int .i64 x.t.visits) (.int .i64 x.t.points) (.int .i64 x.t.darts.lo) (.int .i64 x.t.darts.hi) (.int .i64 x.t.tried.lo) (.int .i64 x.t.tried.hi) (.int .i64 x.t.tons) (.int .i64 x.t.highs) (.int .i64 x.t.tops) (.int .i64 x.t.best)
        · intro e
          obtain ⟨kk, ek, hk, hb⟩ := HS.out.b13 e
          exact ⟨kk, ek, hk, hb.chg hC (fun h => BlkT.ne hb HBK.out (by decide) h)⟩
      go_simp
      with_reducible refine hK _ ?_
      clear hK K
      refine lx_loud (by rfl) (by kernel_rfl) ?_ (fun K hK => ?_)
      · intro L w4 hL hd hcl hC hs
        obtain ⟨y, rfl⟩ := hC
        have h14 := hd 14 (by kernel_rfl)
        have h7 := hd 7 (by kernel_rfl)
        obtain ⟨kk, ek, hk, hb⟩ := hs.b13 h14
        obtain rfl : k13 = kk := by rw [e_14] at ek; cases ek; rfl
        rw [hL] at hb
        have hb : BlkT y.world k13 #[.int .i64 0, .int .i64 0, .int .i64 0, .slice none 0 0, .slice none 0 0, .bool false] 28 := hb
        have r0 := hb.blk.cell 0 (v := .int .i64 0) rfl
        have f0 := hb.blk.frozen 0
        have r1 := hb.blk.cell 1 (v := .int .i64 0) rfl
        have f1 := hb.blk.frozen 1
        have r2 := hb.blk.cell 2 (v := .int .i64 0) rfl
        have f2 := hb.blk.frozen 2
        have r3 := hb.blk.cell 3 (v := .slice none 0 0) rfl
        have f3 := hb.blk.frozen 3
        have r4 := hb.blk.cell 4 (v := .slice none 0 0) rfl
        have f4 := hb.blk.frozen 4
        have r5 := hb.blk.cell 5 (v := .bool false) rfl
        have f5 := hb.blk.frozen 5
        have rl := hb.blk.lt
        have HS := Lib.hid hs
        have HBK := Lib.hid hb
        have HK0 := Lib.hid hk
        have H7 := Lib.hid h7
        clear hs hd hcl hb hk ek hL h7
        go_wp2
        have h7 := H7.out
        have hC := six_chgT (· = k13) y.world (b := k13) rfl (.int .i64 start) (.int .i64 gin) (.int .i64 gout) (.slice a7 bl.length c7) (.slice s7 x.scores.length d7) (.bool x.won)
        refine ⟨⟨fun h => absurd h (by decide), fun h => absurd h (by decide), fun h => absurd h (by decide), fun h => absurd h (by decide), fun h => absurd h (by decide), fun h => absurd h (by decide)⟩, ⟨y.chgd hC (fun b hb => .inl (by rw [show b = k13 from hb]; exact HK0.out)), rfl⟩, ⟨(fun _ h => by have h : L 7 = false := h; rw [h7] at h; cases h), (fun _ h => by have h : L 7 = false := h; rw [h7] at h; cases h), fun e => ?_, ?_, ?_⟩⟩
        · obtain ⟨l1, l2, l3, l4, m1, m2, m3⟩ := HS.out.exa e
          exact ⟨l1, l2, l3, l4, m1, own_chg m2 hC (fun q hq => own_neT m2 HBK.out (by decide) q hq), own_chg m3 hC (fun q hq => own_neT m3 HBK.out (by decide) q hq)⟩
        · intro e
          obtain ⟨kk, ek, hk, hb⟩ := HS.out.b12 e
          exact ⟨kk, ek, hk, hb.chg hC (fun h => BlkT.ne hb HBK.out (by decide) h)⟩
        · intro _
          refine ⟨k13, e_14, HK0.out, ?_⟩
          show BlkT _ k13 (legC7 (u 7)) 28
          rw [e_7]
          exact six_setT HBK.out (.int .i64 start) (.int .i64 gin) (.int .i64 gout) (.slice a7 bl.length c7) (.slice s7 x.scores.length d7) (.bool x.won)
      go_simp
      with_reducible refine hK _ ?_
      clear hK K
      refine lx_next 2 (by rfl) (by decide) ?_
      dsimp only [List.take, List.drop]
      repeat (go_big_quiet_step (fail))
      refine wpQuiet_nil ?_
      refine lx_nil ?_
      intro y hs
      obtain ⟨l1, l2, l3, l4, m1, m2, m3⟩ := hs.exa rfl
      rw [e_7] at m1
      obtain ⟨⟨rfl, rfl⟩, rfl, rfl⟩ : (a7 = l1 ∧ c7 = l2) ∧ s7 = l3 ∧ d7 = l4 := by unfold ExaV Tot.cells at m1; simpa using m1
      obtain ⟨kk, ek, hk12, hb12⟩ := hs.b12 rfl
      obtain rfl : k12 = kk := by rw [e_13] at ek; cases ek; rfl
      obtain ⟨kk, ek2, hk13, hb13⟩ := hs.b13 rfl
      obtain rfl : k13 = kk := by rw [e_14] at ek2; cases ek2; rfl
      have HB12 : Hid (Blk y.world k12 #[.int .i64 x.t.legs, .int .i64 x.t.won, .int .i64 x.t.visits, .int .i64 x.t.points, .int .i64 x.t.darts.lo, .int .i64 x.t.darts.hi, .int .i64 x.t.tried.lo, .int .i64 x.t.tried.hi, .int .i64 x.t.tons, .int .i64 x.t.highs, .int .i64 x.t.tops, .int .i64 x.t.best]) := Lib.hid hb12.blk
      have HB13 : Hid (Blk y.world k13 #[.int .i64 start, .int .i64 gin, .int .i64 gout, .slice a7 bl.length c7, .slice s7 x.scores.length d7, .bool x.won]) := Lib.hid (by have h := hb13.blk; rw [e_7] at h; exact h)
      have HOL : Hid (OwnD y.world w7.heap.size (.slice a7 bl.length c7) bl) := Lib.hid m2
      have HOS : Hid (OwnI y.world w7.heap.size (.slice s7 x.scores.length d7) x.scores) := Lib.hid m3
      have HX7 : Hid (Ext w7 y.world) := Lib.hid (Lat.ext0 y)
      clear hs hu hT hne2 e_1 e_3 e_6 e_7 e_13 e_14 m1 m2 m3 hb12 hb13 ek ek2 hk12 hk13
      generalize y.world = w8 at *
      clear y
      go_wp2
      go_meet
      exact ⟨k12, k13, a7, c7, s7, d7, rfl, rfl, rfl, rfl, HB12.out, HB13.out, HOL.out, HOS.out, HX7.out⟩
    case rest =>
    obtain ⟨k12, k13, a7, c7, s7, d7, hc1, hc2, hc3, hc4, hb12, hb13, hol, hos, hx8⟩ := hcut
    subst hc1
    subst hc2
    subst hc3
    subst hc4
    obtain ⟨w8, rfl⟩ : ∃ y, y = wc := ⟨_, rfl⟩
    clear m0 m1 m2 ml t0 t1 t2 t3 t4 tl HCP HEX HEF
    have HX8 := Lib.hid (HX7'.out.trans hx8)
    have HB8 := Lib.hid (HB7.out.ext hx8)
    have HL8 := Lib.hid (HL7.out.ext hx8)
    have hv1 : 1 ≤ vs.length := by
      rcases Nat.eq_zero_or_pos vs.length with h | h
      · have h4 := List.length_eq_zero_iff.1 h
        have h3 := HRUN.out
        rw [h4] at h3
        injection h3 with h3
        have h5 := HVS.out.2 (by rw [← h3]; rfl)
        omega
      · exact h
    have hok : Tld.ok bl (Tld.mk start gin gout vs x) := ⟨HLAW.out, HRUN.out, hv1, HVS.out.1⟩
    have HOK := Lib.hid hok
    obtain ⟨htd1, htd2⟩ := HTX.out.dar
    obtain ⟨htt1, htt2⟩ := HTX.out.tri
    have hlen : x.scores.length = vs.length := HTX.out.sco
    rw [HTX.out.legs, HTX.out.won, HTX.out.vis, htd1, htt1] at hb12
    rw [hlen] at hb13
    obtain ⟨drt, hdrt⟩ : ∃ y, x.t.darts.lo = y := ⟨_, rfl⟩
    obtain ⟨tri, htri⟩ : ∃ y, x.t.tried.lo = y := ⟨_, rfl⟩
    obtain ⟨pts, hpts⟩ : ∃ y, x.t.points = y := ⟨_, rfl⟩
    obtain ⟨wn, hwn⟩ : ∃ y, x.won = y := ⟨_, rfl⟩
    have HT8 := Lib.hid (HT7.out.ext hx8)
    rw [hpts, hdrt, htri, hwn] at hb12 HT8
    rw [hwn] at hb13
    have HP := Lib.hid (And.intro hpts (And.intro hdrt (And.intro htri hwn)))
    have HH12 := Lib.hid hb12
    have HH13 := Lib.hid hb13
    have HOL := Lib.hid hol
    have HOS := Lib.hid hos
    have HSB := Lib.hid (sums_bnd HD.out (by rw [HDK.out]; omega))
    have HDB := Lib.hid hok.bnd
    have HSZ7 := Lib.hid HX7'.out.size
    clear hok htd1 htd2 htt1 htt2 hlen hb12 hb13 hol hos hpts hdrt htri hwn hx8 HT7 HX7' HB7 HL7 HC7 HW7 HOB6
    go_upto_region 8 with fail
    go_cut [133] (fun v wx => v = .bool false ∧ wx = w8)
    case first =>
      cases wn
      · have g0 := HH12.out.cell 0 (v := .int .i64 1) rfl
        have g1 := HH12.out.cell 1 (v := .int .i64 0) rfl
        have g2 := HH12.out.cell 2 (v := .int .i64 vs.length) rfl
        have g3 := HH12.out.cell 3 (v := .int .i64 pts) rfl
        have g4 := HH12.out.cell 4 (v := .int .i64 drt) rfl
        have g5 := HH12.out.cell 5 (v := .int .i64 drt) rfl
        have g6 := HH12.out.cell 6 (v := .int .i64 tri) rfl
        have g7 := HH12.out.cell 7 (v := .int .i64 tri) rfl
        have gl := HH12.out.lt
        have h0 := HH13.out.cell 0 (v := .int .i64 start) rfl
        have h1 := HH13.out.cell 1 (v := .int .i64 gin) rfl
        have h2 := HH13.out.cell 2 (v := .int .i64 gout) rfl
        have h3 := HH13.out.cell 3 (v := .slice a7 bl.length c7) rfl
        have h4 := HH13.out.cell 4 (v := .slice s7 vs.length d7) rfl
        have h5 := HH13.out.cell 5 (v := .bool false) rfl
        have hl := HH13.out.lt
        have t0 := HT8.out.cell 0 (v := .slice va vs.length vc) rfl
        have t1 := HT8.out.cell 1 (v := .int .i64 pts) rfl
        have t2 := HT8.out.cell 2 (v := .int .i64 drt) rfl
        have t3 := HT8.out.cell 3 (v := .int .i64 tri) rfl
        have t4 := HT8.out.cell 4 (v := .bool false) rfl
        have tl := HT8.out.lt
        go_wp2
        go_meet
        exact ⟨rfl, rfl⟩
      · have g0 := HH12.out.cell 0 (v := .int .i64 1) rfl
        have g1 := HH12.out.cell 1 (v := .int .i64 1) rfl
        have g2 := HH12.out.cell 2 (v := .int .i64 vs.length) rfl
        have g3 := HH12.out.cell 3 (v := .int .i64 pts) rfl
        have g4 := HH12.out.cell 4 (v := .int .i64 drt) rfl
        have g5 := HH12.out.cell 5 (v := .int .i64 drt) rfl
        have g6 := HH12.out.cell 6 (v := .int .i64 tri) rfl
        have g7 := HH12.out.cell 7 (v := .int .i64 tri) rfl
        have gl := HH12.out.lt
        have h0 := HH13.out.cell 0 (v := .int .i64 start) rfl
        have h1 := HH13.out.cell 1 (v := .int .i64 gin) rfl
        have h2 := HH13.out.cell 2 (v := .int .i64 gout) rfl
        have h3 := HH13.out.cell 3 (v := .slice a7 bl.length c7) rfl
        have h4 := HH13.out.cell 4 (v := .slice s7 vs.length d7) rfl
        have h5 := HH13.out.cell 5 (v := .bool true) rfl
        have hl := HH13.out.lt
        have t0 := HT8.out.cell 0 (v := .slice va vs.length vc) rfl
        have t1 := HT8.out.cell 1 (v := .int .i64 pts) rfl
        have t2 := HT8.out.cell 2 (v := .int .i64 drt) rfl
        have t3 := HT8.out.cell 3 (v := .int .i64 tri) rfl
        have t4 := HT8.out.cell 4 (v := .bool true) rfl
        have tl := HT8.out.lt
        go_wp2
        go_meet
        exact ⟨rfl, rfl⟩
    case rest =>
    obtain ⟨hc1, hc2⟩ := hcut
    subst hc1
    subst hc2
    rename World => w8
    have g0 := HH13.out.cell 0 (v := .int .i64 start) rfl
    have g1 := HH13.out.cell 1 (v := .int .i64 gin) rfl
    have g2 := HH13.out.cell 2 (v := .int .i64 gout) rfl
    have g3 := HH13.out.cell 3 (v := .slice a7 bl.length c7) rfl
    have g4 := HH13.out.cell 4 (v := .slice s7 vs.length d7) rfl
    have g5 := HH13.out.cell 5 (v := .bool wn) rfl
    have gl := HH13.out.lt
    obtain ⟨vals, hv1, hv2, hv3⟩ := HL8.out.ext ((Ext.refl w8).alloc (.cells #[.int .i64 start, .int .i64 gin, .int .i64 gout, .slice a7 bl.length c7, .slice s7 vs.length d7, .bool wn] 28))
    rw [List.length_map, HDK.out] at hv1 hv2
    have HROW := Lib.hid hv1
    have HR2 := Lib.hid hv2
    have HR3 := Lib.hid hv3
    clear hv1 hv2 hv3
    go_wp2_with (at_builtin; refine wp_append_from rfl _ _ 75 28 _ 6 80 rfl info_ml (by kernel_rfl) rfl (by decide) w2.heap.size lv k _ rfl HROW.out (some ⟨w8.heap.size, 0, none⟩) 1 1 [.int .i64 start, .int .i64 gin, .int .i64 gout, .slice a7 bl.length c7, .slice s7 vs.length d7, .bool wn] rfl (fun h => by cases h) rfl ?_ ?_ (by omega) (by omega) (by have h2 := HX8.out.size; simp; omega) ?_)
    · intro ad had j u hj
      cases had
      match j, hj with
      | 0, hj => cases hj; rw [addr_add]; exact (Blk.new w8 _ _).cell 0 rfl
      | 1, hj => cases hj; rw [addr_add]; exact (Blk.new w8 _ _).cell 1 rfl
      | 2, hj => cases hj; rw [addr_add]; exact (Blk.new w8 _ _).cell 2 rfl
      | 3, hj => cases hj; rw [addr_add]; exact (Blk.new w8 _ _).cell 3 rfl
      | 4, hj => cases hj; rw [addr_add]; exact (Blk.new w8 _ _).cell 4 rfl
      | 5, hj => cases hj; rw [addr_add]; exact (Blk.new w8 _ _).cell 5 rfl
    · intro u hu
      simp only [List.mem_cons, List.not_mem_nil, or_false] at hu
      rcases hu with rfl | rfl | rfl | rfl | rfl | rfl <;> rfl
    intro v9 w9 hO9 hg9 hn9
    have HL9 : Hid (LgsO w9 w2.heap.size v9 ((ds ++ [(Tld.mk start gin gout vs x)]).map (Tld.leg bl))) := Lib.hid (by
      rw [List.map_append]
      have hal : Ext w8 (w8.alloc (.cells #[.int .i64 start, .int .i64 gin, .int .i64 gout, .slice a7 bl.length c7, .slice s7 vs.length d7, .bool wn] 28)) := (Ext.refl w8).alloc _
      have hlen : (ds.map (Tld.leg bl)).length = k := by rw [List.length_map, HDK.out]
      have hsc : (Tld.leg bl (Tld.mk start gin gout vs x)).scores.length = vs.length := HTX.out.sco
      have hwl : (Tld.leg bl (Tld.mk start gin gout vs x)).won = wn := HP.out.2.2.2
      have hcl : (Tld.leg bl (Tld.mk start gin gout vs x)).cells a7 s7 c7 d7 = [.int .i64 start, .int .i64 gin, .int .i64 gout, .slice a7 bl.length c7, .slice s7 vs.length d7, .bool wn] := by
        unfold Leg.cells
        rw [hsc, hwl]
        rfl
      refine LgsO.snoc (l := Tld.leg bl (Tld.mk start gin gout vs x)) (ba := a7) (bc := c7) (sa := s7) (sc := d7) (vals := vals) (by rw [hlen]; exact HROW.out) (by rw [hlen]; exact HR2.out) HR3.out (own_mono (OwnD.ext HOL.out hal) HSZ7.out) ?_ (by rw [hlen, hcl]; exact hO9) hg9
      have h := HOS.out
      exact own_mono (own_chg h (hal.chg fun _ => False) fun _ _ => id) HSZ7.out)
    have hX9 : Ext w2 w9 := Chg.to_ext (HX8.out.alloc _) hg9 (fun i hi => (World.ownsRow.lt HROW.out i hi).1)
    obtain ⟨ga9, gc9, rfl⟩ := HL9.out.shape
    have HX9 := Lib.hid hX9
    have HT9 : Hid (Blk w9 k11 #[.slice va vs.length vc, .int .i64 pts, .int .i64 drt, .int .i64 tri, .bool wn]) := Lib.hid (by
      exact (HT8.out.ext ((Ext.refl w8).alloc (.cells #[.int .i64 start, .int .i64 gin, .int .i64 gout, .slice a7 bl.length c7, .slice s7 vs.length d7, .bool wn] 28))).chg hg9 (fun e => Nat.lt_irrefl _ (HKL.out k11 e)))
    obtain ⟨⟨sb0, sb1⟩, ⟨sb2, sb3⟩, ⟨sb4, sb5⟩, sb6, sb7⟩ := HSB.out
    rw [HSE.out.1] at sb0 sb1
    rw [HSE.out.2.1] at sb2 sb3
    rw [HSE.out.2.2.1] at sb4 sb5
    rw [HSE.out.2.2.2] at sb6 sb7
    have hdb : (0 ≤ drt ∧ drt ≤ 45) ∧ (0 ≤ tri ∧ tri ≤ 45) ∧ (0 ≤ pts ∧ pts ≤ 1001) := by
      have h := HDB.out
      have h2 := HP.out
      refine ⟨?_, ?_, ?_⟩
      · rw [← h2.2.1]; exact h.1
      · rw [← h2.2.2.1]; exact h.2.1
      · rw [← h2.1]; exact h.2.2.2
    obtain ⟨⟨db0, db1⟩, ⟨db2, db3⟩, db4, db5⟩ := hdb
    clear hO9 hg9 hn9 hX9 g0 g1 g2 g3 g4 g5 gl HROW HR2 HR3 HL8 HH12 HH13 HOL HOS HB8
    go_upto_region 11 with fail
    have t0 : ∀ y : Later w9, y.world.cell? ⟨k11, 0, none⟩ = some (.slice va vs.length vc) := fun y => (HT9.out.ext y.ext).cell 0 rfl
    have t1 : ∀ y : Later w9, y.world.cell? ⟨k11, 1, none⟩ = some (.int .i64 pts) := fun y => (HT9.out.ext y.ext).cell 1 rfl
    have t2 : ∀ y : Later w9, y.world.cell? ⟨k11, 2, none⟩ = some (.int .i64 drt) := fun y => (HT9.out.ext y.ext).cell 2 rfl
    have t3 : ∀ y : Later w9, y.world.cell? ⟨k11, 3, none⟩ = some (.int .i64 tri) := fun y => (HT9.out.ext y.ext).cell 3 rfl
    have t4 : ∀ y : Later w9, y.world.cell? ⟨k11, 4, none⟩ = some (.bool wn) := fun y => (HT9.out.ext y.ext).cell 4 rfl
    have tl := HT9.out.lt
    refine wp_region_later (by kernel_rfl) (by kernel_rfl) ?_
    repeat (go_big_quiet_step (fail))
    refine wpQuiet_nil ?_
    intro w10 hw10
    obtain ⟨⟨w10, hx10⟩, rfl⟩ := hw10
    have HX10 := Lib.hid (HX9.out.trans hx10)
    have HL10 := Lib.hid (HL9.out.ext hx10)
    have HT10 := Lib.hid (HT9.out.ext hx10)
    have HSN : Hid (sumD Tld.drt (ds ++ [(Tld.mk start gin gout vs x)]) = sd + drt ∧ sumD Tld.tri (ds ++ [(Tld.mk start gin gout vs x)]) = st + tri ∧ sumD Tld.won (ds ++ [(Tld.mk start gin gout vs x)]) = sw + (if wn = true then 1 else 0) ∧ sumD Tld.pts (ds ++ [(Tld.mk start gin gout vs x)]) = sp + pts) := Lib.hid (by
      rw [sumD_snoc, sumD_snoc, sumD_snoc, sumD_snoc, HSE.out.1, HSE.out.2.1, HSE.out.2.2.1, HSE.out.2.2.2]
      have h2 := HP.out
      refine ⟨?_, ?_, ?_, ?_⟩
      · rw [← h2.2.1]; rfl
      · rw [← h2.2.2.1]; rfl
      · rw [← h2.2.2.2]; rfl
      · rw [← h2.1]; rfl)
    have HDN : Hid (∀ d ∈ ds ++ [(Tld.mk start gin gout vs x)], d.ok bl) := Lib.hid (fun d hd => by
      rcases List.mem_append.1 hd with h | h
      · exact HD.out d h
      · rw [List.mem_singleton.1 h]; exact HOK.out)
    have HLEN2 : Hid ((ds ++ [(Tld.mk start gin gout vs x)]).length = k + 1) := Lib.hid (by rw [List.length_append, HDK.out]; rfl)
    clear hx10 t0 t1 t2 t3 t4 tl HL9 HT9
    have z4 := HT10.out.cell 4 (v := .bool wn) rfl
    have zl := HT10.out.lt
    obtain ⟨ds2, hds2⟩ : ∃ l, ds ++ [(Tld.mk start gin gout vs x)] = l := ⟨_, rfl⟩
    rw [hds2] at HSN HDN HLEN2 HL10
    rw [hds2]
    clear hds2
    cases wn
    · have e3 : Hid (sumD Tld.won ds2 = sw) := Lib.hid (by have h := HSN.out.2.2.1; simp at h; exact h)
      go_wp2
      go_roundw
      case rel => exact ⟨k + 1, ds2, _, by omega, HLEN2.out, rfl, by go_num, by rw [HSN.out.1], by rw [HSN.out.2.1], by rw [e3.out], by rw [HSN.out.2.2.2], HL10.out, HDN.out, HX10.out⟩
      case measure => simp [intOf]; omega
    · have e3 : Hid (sumD Tld.won ds2 = sw + 1) := Lib.hid (by have h := HSN.out.2.2.1; simp at h; exact h)
      go_wp2
      go_roundw
      case rel => exact ⟨k + 1, ds2, _, by omega, HLEN2.out, rfl, by go_num, by rw [HSN.out.1], by rw [HSN.out.2.1], by rw [e3.out], by rw [HSN.out.2.2.2], HL10.out, HDN.out, HX10.out⟩
      case measure => simp [intOf]; omega
end Go.Proofs.Ytmopadnkjlodnaa
