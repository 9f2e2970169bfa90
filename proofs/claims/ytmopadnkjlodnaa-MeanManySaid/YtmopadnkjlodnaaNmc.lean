/-
  MeanMany, walked.
-/
import Derived.Test.YtmopadnkjlodnaaNmf
import Derived.Deep.CutBlock
import Derived.Deep.DeepCutAuto
namespace Go.Proofs.Ytmopadnkjlodnaa
open Go.RowKit Go.BigFrame
attribute [local go_sem] Later.cell Later.frozen Lat.cell Lat.frozen NoX
theorem fx0 (a : Option Addr) (n c : Nat) (p d t : Int) (z : Bool) (W : World) : (Instr.field 78 (.agg #[.slice a n c, .int .i64 p, .int .i64 d, .int .i64 t, .bool z]) 0).run Try.prog W = .ok (.slice a n c) W := by set_option maxRecDepth 100000 in rfl
attribute [local go_sem] fx0
set_option maxRecDepth 100000 in
set_option maxHeartbeats 16000000 in
theorem law_many (HK : Hid Knows) (n : Nt) (ba sa ha : Option Addr) (bc sc hc : Nat) (cut : Nat) (hcut : cut ≤ 255) (w : World) (hA : NtA n ba sa ha w) :
    Calls Try.prog 12 #[.agg (n.cells ba sa ha bc sc hc), .int .u8 cut] w fun e w' => e = .returned (.bool true) ∧ Ext w w' := by
  have HA := Lib.hid hA
  clear hA
  unfold Nt.cells
  go_enter Try.func12, Try.ntmps12
  go_upto_region 1 with fail
  generalize hw1 : World.alloc w _ = w1
  obtain ⟨k1, hk1⟩ : ∃ y, y = w.heap.size := ⟨_, rfl⟩
  rw [← hk1]
  have HB1 : Hid (Blk w1 k1 #[.slice ba n.beds.length bc, .slice sa n.starts.length sc, .int .u8 n.gates, .slice ha n.hits.length hc]) := Lib.hid (by rw [← hw1, hk1]; exact Blk.new _ _ _)
  have HX1 : Hid (Ext w w1) := Lib.hid (by rw [← hw1]; exact (Ext.refl w).alloc _)
  clear hw1 hk1
  have HNB := Lib.hid (fun W (hx : Ext w W) => night_board n ba sa ha bc sc hc W (HA.out.ext hx))
  have HNC := Lib.hid (fun W (hx : Ext w W) i => night_count n ba sa ha bc sc hc i W (HA.out.ext hx))
  have HNT := Lib.hid (fun W (hx : Ext w W) => fun la lc bl start gin gout at_ => night_tale n ba sa ha la bc sc hc lc bl start gin gout at_ W (HA.out.ext hx))
  unfold Nt.cells at HNB HNC HNT
  have c0 := HB1.out.cell 0 (v := .slice ba n.beds.length bc) rfl
  have c1 := HB1.out.cell 1 (v := .slice sa n.starts.length sc) rfl
  have c2 := HB1.out.cell 2 (v := .int .u8 n.gates) rfl
  have c3 := HB1.out.cell 3 (v := .slice ha n.hits.length hc) rfl
  have cl := HB1.out.lt
  go_wp2_with fail
  refine (HNB.out _ HX1.out).mono ?_
  rintro e w2 ⟨la, lc, bl, rfl, hO, hbb, hbl, hx2⟩
  have HX2 := Lib.hid (HX1.out.trans hx2)
  have HB2 := Lib.hid (HB1.out.ext hx2)
  have HOB := Lib.hid hO
  have HBB := Lib.hid hbb
  have HI64 : Hid (∀ b ∈ bl, I64 b) := Lib.hid (fun b hb => by
    obtain ⟨i, hi, rfl⟩ := List.mem_iff_getElem.1 hb
    have h := (BedOk.parts (.inr ((bedsB_iff bl).1 hbb i hi hi).1)).1
    exact ⟨by omega, by omega⟩)
  obtain ⟨lb, lo, rfl, -⟩ := hO.at0 0 (by omega)
  clear hx2 hO hbb c0 c1 c2 c3 cl
  obtain ⟨N, hN⟩ : ∃ N, 1 + n.starts.length % 4 = N := ⟨_, rfl⟩
  have HN := Lib.hid hN
  have hN4 : 1 ≤ N ∧ N ≤ 4 := by omega
  clear hN
  go_wp2
  rename_i K0 b0
  go_loopw [6, 7] (fun l i wr => ∃ (k : Nat) (ds : List Tld) (lv : Value), k ≤ N ∧ ds.length = k ∧ lv = l ∧ i = .int .i64 k ∧ LgsO wr w2.heap.size lv (ds.map (Tld.leg bl)) ∧ (∀ d ∈ ds, d.ok bl) ∧ Ext w2 wr) (fun _ i _ => N - (intOf i).toNat)
  case atStart => exact ⟨0, [], _, Nat.zero_le _, rfl, rfl, rfl, ⟨[], own_empty rfl (Nat.le_refl _), rfl, fun i hi => absurd hi (by simp)⟩, (fun d hd => by cases hd), (Ext.refl w2).alloc _⟩
  case round =>
    obtain ⟨k, ds, lv, hk, hdk, rfl, rfl, hL, hD, hx⟩ := hrel
    obtain ⟨w3, rfl⟩ : ∃ y, y = wr := ⟨_, rfl⟩
    have HL := Lib.hid hL
    have HD := Lib.hid hD
    have HX3 := Lib.hid hx
    have HDK := Lib.hid hdk
    clear hL hD hx hdk
    have HB3 := Lib.hid (HB2.out.ext HX3.out)
    have c0 := HB3.out.cell 0 (v := .slice ba n.beds.length bc) rfl
    have c1 := HB3.out.cell 1 (v := .slice sa n.starts.length sc) rfl
    have c2 := HB3.out.cell 2 (v := .int .u8 n.gates) rfl
    have c3 := HB3.out.cell 3 (v := .slice ha n.hits.length hc) rfl
    have cl := HB3.out.lt
    have HLN := Lib.hid HA.out.ls
    have hNi : 1 + (n.starts.length : Int) % 4 = (N : Int) := by have := HN.out; omega
    by_cases hkN : k < N
    case neg =>
      obtain rfl : k = N := by omega
      have hkN' : ¬ (k : Int) < (k : Int) := by omega
      obtain ⟨ga, gc, hgc⟩ := HL.out.shape
      have hlm : (ds.map (Tld.leg bl)).length = k := by rw [List.length_map, HDK.out]
      rw [hlm] at hgc
      subst hgc
      obtain ⟨vals, hv1, -⟩ := HL.out
      rw [hlm] at hv1
      obtain ⟨g, rfl, hgc, -⟩ := own_some hv1 (by omega)
      clear hv1 hlm
      go_upto_if 45 with fail
      refine wp_cond_false rfl ?_
      refine wp_exit ?_
      refine b0 _ _ ?_
      exact many_back _ (by kernel_rfl) HK w w3 (Lib.hid (HX2.out.trans HX3.out)) bl hbl HI64 ds k hN4 HDK HD w2.heap.size g gc HL hgc (Lib.hid HX3.out.size) cut hcut
    case pos =>
    have hkN' : (k : Int) < (N : Int) := by omega
    go_upto_region 5 with fail
    clear hNi
    go_wp2_with fail
    refine (HNC.out _ (HX2.out.trans HX3.out) k).mono ?_
    rintro e w4 ⟨start, gin, gout, rfl, hstb, hgi, hgo, hx4⟩
    have HX4 := Lib.hid (HX3.out.trans hx4)
    have HB4 := Lib.hid (HB3.out.ext hx4)
    have HL4 := Lib.hid (HL.out.ext hx4)
    clear hx4 c0 c1 c2 c3 cl HL HB3
    go_upto_region 6 with fail
    generalize hw5 : World.alloc w4 _ = w5
    obtain ⟨k8, hk8⟩ : ∃ y, y = w4.heap.size := ⟨_, rfl⟩
    rw [← hk8]
    have HC5 : Hid (Blk w5 k8 #[.int .i64 start, .int .i64 gin, .int .i64 gout]) := Lib.hid (by rw [← hw5, hk8]; exact Blk.new _ _ _)
    have HX45 : Hid (Ext w4 w5) := Lib.hid (by rw [← hw5]; exact (Ext.refl _).alloc _)
    clear hw5 hk8
    have HX5 := Lib.hid (HX4.out.trans HX45.out)
    have HB5 := Lib.hid (HB4.out.ext HX45.out)
    have HL5 := Lib.hid (HL4.out.ext HX45.out)
    clear HX45 HB4 HL4
    have HOB5 := Lib.hid (OwnD.ext HOB.out HX5.out)
    have hat3 : 3 * k ≤ 1000 := by omega
    have HTL := Lib.hid (fun W (hx : Ext w5 W) => HNT.out W ((HX2.out.trans HX5.out).trans hx) (some ⟨lb, lo, none⟩) lc bl start gin gout (3 * k) (OwnD.ext HOB5.out hx).at0 HBB.out hbl hstb hgi hgo hat3)
    have HLAW : Hid (lawsB start gin gout bl = true) := Lib.hid (by
      unfold lawsB
      rw [HBB.out]
      simp only [Bool.true_and, Bool.and_eq_true]
      exact ⟨⟨ins_one.2 (by omega), by unfold ins out1; simp; omega⟩, ins_one.2 (by omega)⟩)
    have m0 : ∀ y : Lat NoX w5, y.world.cell? ⟨k8, 0, none⟩ = some (.int .i64 start) := fun y => (HC5.out.ext (Lat.ext0 y)).cell 0 rfl
    have m1 : ∀ y : Lat NoX w5, y.world.cell? ⟨k8, 1, none⟩ = some (.int .i64 gin) := fun y => (HC5.out.ext (Lat.ext0 y)).cell 1 rfl
    have m2 : ∀ y : Lat NoX w5, y.world.cell? ⟨k8, 2, none⟩ = some (.int .i64 gout) := fun y => (HC5.out.ext (Lat.ext0 y)).cell 2 rfl
    have ml := HC5.out.lt
    have c0 : ∀ y : Lat NoX w5, y.world.cell? ⟨k1, 0, none⟩ = some (.slice ba n.beds.length bc) := fun y => (HB5.out.ext (Lat.ext0 y)).cell 0 rfl
    have c1 : ∀ y : Lat NoX w5, y.world.cell? ⟨k1, 1, none⟩ = some (.slice sa n.starts.length sc) := fun y => (HB5.out.ext (Lat.ext0 y)).cell 1 rfl
    have c2 : ∀ y : Lat NoX w5, y.world.cell? ⟨k1, 2, none⟩ = some (.int .u8 n.gates) := fun y => (HB5.out.ext (Lat.ext0 y)).cell 2 rfl
    have c3 : ∀ y : Lat NoX w5, y.world.cell? ⟨k1, 3, none⟩ = some (.slice ha n.hits.length hc) := fun y => (HB5.out.ext (Lat.ext0 y)).cell 3 rfl
    have cl := HB5.out.lt
    go_cut [10, 11, 12] (fun q a e wx => ∃ (k10 : Nat) (vs : List (List Int)) (x : Exa) (l1 : Option Addr) (l2 : Nat) (l3 : Option Addr) (l4 : Nat), q = .pointer (some ⟨k10, 0, none⟩) ∧ a = .int .i64 0 ∧ e = .int .i64 0 ∧ TalF start gin gout bl vs x ∧ Blk wx k10 #[.int .i64 start, .int .i64 gin, .int .i64 gout, .slice l1 bl.length l2, .slice l3 x.scores.length l4, .bool x.won] ∧ OwnD wx w5.heap.size (.slice l1 bl.length l2) bl ∧ OwnI wx w5.heap.size (.slice l3 x.scores.length l4) x.scores ∧ Ext w5 wx)
    case first =>
      refine wp_region_lat (by kernel_rfl) NoX (fun k => (k == 1) || ((k == 3) || ((k == 9) || ((k == 11) || ((k == 17) || ((k == 18) || ((k == 19) || (k == 20)))))))) (R12 bl start gin gout) (G12 w5.heap.size bl start gin gout) (by kernel_rfl)
        (fun k hk => by
          simp only [Bool.or_eq_true, beq_iff_eq] at hk
          rcases hk with rfl | rfl | rfl | rfl | rfl | rfl | rfl | rfl <;> decide)
        (fun L L' u w' h hg => hg.congr (h 3 rfl) (h 9 rfl) (h 11 rfl) (h 17 rfl) (h 18 rfl) (h 19 rfl) (h 20 rfl) rfl rfl rfl rfl rfl) (fun L u a b h hx => h.ext hx) (w12W bl start gin gout) (fun k _ => w12W_ok _ _ _ _ k) ⟨fun h => absurd h (by decide), fun h => absurd h (by decide), fun h => absurd h (by decide), fun h => absurd h (by decide), fun h => absurd h (by decide)⟩ ?_
      intro T hT hne2 u hu
      obtain ⟨b1, e_1⟩ := (hu 1 rfl).1 rfl
      obtain ⟨a3, c3, e_3⟩ := (hu 3 rfl).2.1 rfl
      obtain ⟨ta, tn, tc, tp, td, tt, tz, e_9⟩ := (hu 9 rfl).2.2.1 rfl
      obtain ⟨e0, e1, e2, e3, e4, e5, e6, e7, e8, e9, e10, e11, a7, c7, s7, sn, d7, z7, e_11⟩ := (hu 11 rfl).2.2.2.1 rfl
      obtain ⟨k9, e_17⟩ := (hu 17 rfl).2.2.2.2.1 rfl
      obtain ⟨k10, e_18⟩ := (hu 18 rfl).2.2.2.2.2 rfl
      refine lx_next 1 (by rfl) (by decide) ?_
      dsimp only [List.take, List.drop]
      repeat (go_big_quiet_step (fail))
      refine wpQuiet_nil ?_
      refine lx_loud (by rfl) (by kernel_rfl) ?_ (fun K hK => ?_)
      · intro L w4 hL hd hcl hC hs
        obtain ⟨y, rfl⟩ := hC
        have HS := Lib.hid hs
        clear hs hd hcl hL
        go_wp2
        exact ⟨⟨fun _ => ⟨_, rfl⟩, fun h => absurd h (by decide), fun h => absurd h (by decide), fun h => absurd h (by decide), fun h => absurd h (by decide), fun h => absurd h (by decide)⟩, ⟨y.ext ((Ext.refl _).alloc _), rfl⟩, (HS.out.ext ((Ext.refl _).alloc _)).congr rfl rfl rfl rfl rfl rfl rfl rfl rfl rfl rfl rfl⟩
      rw [e_1]
      go_simp
      with_reducible refine hK _ ?_
      clear hK K
      refine lx_next 1 (by rfl) (by decide) ?_
      dsimp only [List.take, List.drop]
      repeat (go_big_quiet_step (fail))
      refine wpQuiet_nil ?_
      refine lx_loud (by rfl) (by kernel_rfl) ?_ (fun K hK => ?_)
      · intro L w4 hL hd hcl hC hs
        obtain ⟨y, rfl⟩ := hC
        have HS := Lib.hid hs
        have hyx := Lat.ext0 y
        have HYX := Lib.hid hyx
        clear hs hd hcl hL hyx
        go_wp2_with (at_builtin; refine wp_append_new rfl _ _ 25 99 _ 1 8 rfl info_bed (by kernel_rfl) rfl (by decide) ⟨b1, 0, none⟩ rfl ⟨lb, lo, none⟩ bl.length lc (bl.map (Value.int .i64)) rfl (by simp) (CellsAt.vals (OwnD.ext HOB5.out HYX.out).at0 _ rfl) (by omega) (by omega) (by omega) ?_)
        intro v' w6 hO' hx'
        have hO2 : OwnD w6 y.world.heap.size v' bl := by exact hO'
        obtain ⟨av, ac, rfl⟩ := hO2.shape
        have HO2 := Lib.hid hO2
        have HXX := Lib.hid hx'
        clear hO' hx' hO2
        go_wp2
        have h := HS.out.ext HXX.out
        exact ⟨⟨fun h => absurd h (by decide), fun _ => ⟨_, _, rfl⟩, fun h => absurd h (by decide), fun h => absurd h (by decide), fun h => absurd h (by decide), fun h => absurd h (by decide)⟩, ⟨y.ext HXX.out, rfl⟩, ⟨fun _ _ => own_mono HO2.out HYX.out.size, h.tal, h.exa, h.b17, h.b18⟩⟩
      rw [e_3]
      go_simp
      with_reducible refine hK _ ?_
      clear hK K
      refine lx_next 5 (by rfl) (by decide) ?_
      dsimp only [List.take, List.drop]
      repeat (go_big_quiet_step (fail))
      refine wpQuiet_nil ?_
      refine lx_loud (by rfl) (by kernel_rfl) ?_ (fun K hK => ?_)
      · intro L w4 hL hd hcl hC hs
        obtain ⟨y, rfl⟩ := hC
        have HS := Lib.hid hs
        have HYX := Lib.hid (Lat.ext0 y)
        have HT9 := Lib.hid (HTL.out y.world HYX.out)
        clear hs hd hcl hL
        go_wp2_with fail
        refine HT9.out.mono ?_
        rintro e w6 ⟨vs, x, vv, rfl, hW, hrun, htx, hvs, hmem, hx'⟩
        obtain ⟨va, vc, rfl⟩ := hW.shape
        have HW6 := Lib.hid hW
        have HF : Hid (TalF start gin gout bl vs x) := Lib.hid ⟨hrun, htx, hvs, hmem⟩
        have HXX := Lib.hid hx'
        clear hW hrun htx hvs hmem hx'
        go_wp2
        have h := HS.out.ext HXX.out
        exact ⟨⟨fun h => absurd h (by decide), fun h => absurd h (by decide), fun _ => ⟨_, _, _, _, _, _, _, rfl⟩, fun h => absurd h (by decide), fun h => absurd h (by decide), fun h => absurd h (by decide)⟩, ⟨y.ext HXX.out, rfl⟩, ⟨h.app, fun _ _ => ⟨vs, x, va, vc, _, _, _, _, HF.out, rfl, HW6.out.mono HYX.out.size⟩, h.exa, h.b17, h.b18⟩⟩
      rw [e_9]
      go_simp
      with_reducible refine hK _ ?_
      clear hK K
      refine lx_next 1 (by rfl) (by decide) ?_
      dsimp only [List.take, List.drop]
      repeat (go_big_quiet_step (fail))
      refine wpQuiet_nil ?_
      refine lx_loud (by rfl) (by kernel_rfl) ?_ (fun K hK => ?_)
      · intro L w4 hL hd hcl hC hs
        obtain ⟨y, rfl⟩ := hC
        have h3 := hs.app (hd 3 (by kernel_rfl)) hL
        obtain ⟨vs, x, va, vc, p1, p2, p3, p4, hF, ev, hW⟩ := hs.tal (hd 9 (by kernel_rfl)) hL
        rw [e_3] at h3
        rw [e_9] at ev
        obtain ⟨rfl, rfl, rfl⟩ : ta = va ∧ tn = vs.length ∧ tc = vc := by
          injection ev with ev
          have := congrArg (fun a : Array Value => a.getD 0 undef) ev
          simpa using this
        have HYX := Lib.hid (Lat.ext0 y)
        have HF := Lib.hid hF
        have HCX := Lib.hid (exact_tal hstb HLAW.out HI64.out hF y.world _ a3 c3 ta tc h3 hW)
        have HS := Lib.hid hs
        have H19 := Lib.hid (hcl.off hL 40 19 (by kernel_rfl))
        have H20 := Lib.hid (hcl.off hL 40 20 (by kernel_rfl))
        clear hs hd hcl hL h3 hF hW ev
        go_wp2_with fail
        refine HCX.out.mono ?_
        rintro e w6 ⟨⟨l1, l2, l3, l4, rfl, m2, m3⟩, hx'⟩
        have HM2 := Lib.hid m2
        have HM3 := Lib.hid m3
        have HXX := Lib.hid hx'
        clear m2 m3 hx'
        go_wp2
        have h := HS.out.ext HXX.out
        exact ⟨⟨fun h => absurd h (by decide), fun h => absurd h (by decide), fun h => absurd h (by decide), fun _ => ⟨_, _, _, _, _, _, _, _, _, _, _, _, _, _, _, _, _, _, rfl⟩, fun h => absurd h (by decide), fun h => absurd h (by decide)⟩, ⟨y.ext HXX.out, rfl⟩, ⟨fun _ h => Bool.noConfusion (show true = false from h), fun _ h => Bool.noConfusion (show true = false from h), fun _ => ⟨vs, x, _, _, _, _, HF.out, rfl, own_mono HM2.out HYX.out.size, own_mono HM3.out HYX.out.size⟩, fun e => by
          obtain ⟨k, g1, g2, g3⟩ := h.b17 e
          rw [H19.out] at g3
          refine ⟨k, g1, g2, ?_⟩
          show BlkT _ k (bif L 19 then _ else tot0.cells) _
          rw [H19.out]
          exact g3, fun e => by
          obtain ⟨k, g1, g2, g3⟩ := h.b18 e
          rw [H20.out] at g3
          refine ⟨k, g1, g2, ?_⟩
          show BlkT _ k (bif L 20 then _ else leg0C) _
          rw [H20.out]
          exact g3⟩⟩
      rw [e_11]
      go_simp
      with_reducible refine hK _ ?_
      clear hK K
      refine lx_next 5 (by rfl) (by decide) ?_
      dsimp only [List.take, List.drop]
      repeat (go_big_quiet_step (fail))
      refine wpQuiet_nil ?_
      refine lx_loud (by rfl) (by kernel_rfl) ?_ (fun K hK => ?_)
      · intro L w4 hL hd hcl hC hs
        obtain ⟨y, rfl⟩ := hC
        have HS := Lib.hid hs
        have HYX := Lib.hid (Lat.ext0 y)
        have H19 := Lib.hid (hcl.off hL 40 19 (by kernel_rfl))
        clear hs hd hcl hL
        go_wp2
        have h := HS.out.ext ((Ext.refl y.world).alloc (.cells tot0.cells 55))
        exact ⟨⟨fun h => absurd h (by decide), fun h => absurd h (by decide), fun h => absurd h (by decide), fun h => absurd h (by decide), fun _ => ⟨_, rfl⟩, fun h => absurd h (by decide)⟩, ⟨y.ext ((Ext.refl _).alloc _), rfl⟩, ⟨h.app, h.tal, h.exa, fun _ => ⟨_, rfl, HYX.out.size, by rw [show upd L 17 19 = L 19 from rfl, H19.out]; exact BlkT.new _ _ _⟩, h.b18⟩⟩
      rw [e_17]
      go_simp
      with_reducible refine hK _ ?_
      clear hK K
      refine lx_loud (by rfl) (by kernel_rfl) ?_ (fun K hK => ?_)
      · intro L w4 hL hd hcl hC hs
        obtain ⟨y, rfl⟩ := hC
        have HS := Lib.hid hs
        have HYX := Lib.hid (Lat.ext0 y)
        have H20 := Lib.hid (hcl.off hL 40 20 (by kernel_rfl))
        clear hs hd hcl hL
        go_wp2
        have h := HS.out.ext ((Ext.refl y.world).alloc (.cells leg0C 28))
        exact ⟨⟨fun h => absurd h (by decide), fun h => absurd h (by decide), fun h => absurd h (by decide), fun h => absurd h (by decide), fun h => absurd h (by decide), fun _ => ⟨_, rfl⟩⟩, ⟨y.ext ((Ext.refl _).alloc _), rfl⟩, ⟨h.app, h.tal, h.exa, h.b17, fun _ => ⟨_, rfl, HYX.out.size, by rw [show upd L 18 20 = L 20 from rfl, H20.out]; exact BlkT.new _ _ _⟩⟩⟩
      rw [e_18]
      go_simp
      with_reducible refine hK _ ?_
      clear hK K
      refine lx_loud (by rfl) (by kernel_rfl) ?_ (fun K hK => ?_)
      · intro L w4 hL hd hcl hC hs
        obtain ⟨y, rfl⟩ := hC
        have h17 := hd 17 (by kernel_rfl)
        have h11 := hd 11 (by kernel_rfl)
        obtain ⟨kk, ek, hk, hb⟩ := hs.b17 h17
        obtain rfl : k9 = kk := by rw [e_17] at ek; cases ek; rfl
        rw [hL] at hb
        have hb : BlkT y.world k9 #[.int .i64 0, .int .i64 0, .int .i64 0, .int .i64 0, .int .i64 0, .int .i64 0, .int .i64 0, .int .i64 0, .int .i64 0, .int .i64 0, .int .i64 0, .int .i64 0] 55 := hb
        have r0 := hb.blk.cell 0 (v := .int .i64 0) rfl
        have f0 := hb.blk.frozen 0
        have r1 := hb.blk.cell 1 (v := .int .i64 0) rfl
        have f1 := hb.blk.frozen 1
        have r2 := hb.blk.cell 2 (v := .int .i64 0) rfl
        have f2 := hb.blk.frozen 2
        have r3 := hb.blk.cell 3 (v := .int .i64 0) rfl
        have f3 := hb.blk.frozen 3
        have r4 := hb.blk.cell 4 (v := .int .i64 0) rfl
        have f4 := hb.blk.frozen 4
        have r5 := hb.blk.cell 5 (v := .int .i64 0) rfl
        have f5 := hb.blk.frozen 5
        have r6 := hb.blk.cell 6 (v := .int .i64 0) rfl
        have f6 := hb.blk.frozen 6
        have r7 := hb.blk.cell 7 (v := .int .i64 0) rfl
        have f7 := hb.blk.frozen 7
        have r8 := hb.blk.cell 8 (v := .int .i64 0) rfl
        have f8 := hb.blk.frozen 8
        have r9 := hb.blk.cell 9 (v := .int .i64 0) rfl
        have f9 := hb.blk.frozen 9
        have r10 := hb.blk.cell 10 (v := .int .i64 0) rfl
        have f10 := hb.blk.frozen 10
        have r11 := hb.blk.cell 11 (v := .int .i64 0) rfl
        have f11 := hb.blk.frozen 11
        have rl := hb.blk.lt
        have HS := Lib.hid hs
        have HBK := Lib.hid hb
        have HK0 := Lib.hid hk
        have H11 := Lib.hid h11
        clear hs hd hcl hb hk ek hL h11
        go_wp2
        have h11 := H11.out
        have hC := twl_chg (· = k9) y.world (b := k9) rfl (.int .i64 e0) (.int .i64 e1) (.int .i64 e2) (.int .i64 e3) (.int .i64 e4) (.int .i64 e5) (.int .i64 e6) (.int .i64 e7) (.int .i64 e8) (.int .i64 e9) (.int .i64 e10) (.int .i64 e11)
        refine ⟨⟨fun h => absurd h (by decide), fun h => absurd h (by decide), fun h => absurd h (by decide), fun h => absurd h (by decide), fun h => absurd h (by decide), fun h => absurd h (by decide)⟩, ⟨y.chgd hC (fun b hb => .inl (by rw [show b = k9 from hb]; exact HK0.out)), rfl⟩, ⟨(fun _ h => by have h : L 11 = false := h; rw [h11] at h; cases h), (fun _ h => by have h : L 11 = false := h; rw [h11] at h; cases h), fun e => ?_, ?_, ?_⟩⟩
        · obtain ⟨q1, q2, l1, l2, l3, l4, m0, m1, m2, m3⟩ := HS.out.exa e
          exact ⟨q1, q2, l1, l2, l3, l4, m0, m1, own_chg m2 hC (fun q hq => own_neT m2 HBK.out (by decide) q hq), own_chg m3 hC (fun q hq => own_neT m3 HBK.out (by decide) q hq)⟩
        · intro _
          refine ⟨k9, e_17, HK0.out, ?_⟩
          show BlkT _ k9 (totC7 (u 11)) 55
          rw [e_11]
          exact twl_setT HBK.out (.int .i64 e0) (.int .i64 e1) (.int .i64 e2) (.int .i64 e3) (.int .i64 e4) (.int .i64 e5) (.int .i64 e6) (.int .i64 e7) (.int .i64 e8) (.int .i64 e9) (.int .i64 e10) (.int .i64 e11)
        · intro e
          obtain ⟨kk, ek, hk, hb⟩ := HS.out.b18 e
          exact ⟨kk, ek, hk, hb.chg hC (fun h => BlkT.ne hb HBK.out (by decide) h)⟩
      go_simp
      with_reducible refine hK _ ?_
      clear hK K
      refine lx_loud (by rfl) (by kernel_rfl) ?_ (fun K hK => ?_)
      · intro L w4 hL hd hcl hC hs
        obtain ⟨y, rfl⟩ := hC
        have h18 := hd 18 (by kernel_rfl)
        have h11 := hd 11 (by kernel_rfl)
        obtain ⟨kk, ek, hk, hb⟩ := hs.b18 h18
        obtain rfl : k10 = kk := by rw [e_18] at ek; cases ek; rfl
        rw [hL] at hb
        have hb : BlkT y.world k10 #[.int .i64 0, .int .i64 0, .int .i64 0, .slice none 0 0, .slice none 0 0, .bool false] 28 := hb
        have r0 := hb.blk.cell 0 (v := .int .i64 0) rfl
        have f0 := hb.blk.frozen 0
        have r1 := hb.blk.cell 1 (v := .int .i64 0) rfl
        have f1 := hb.blk.frozen 1
        have r2 := hb.blk.cell 2 (v := .int .i64 0) rfl
        have f2 := hb.blk.frozen 2
        have r3 := hb.blk.cell 3 (v := .slice none 0 0) rfl
        have f3 := hb.blk.frozen 3
        have r4 := hb.blk.cell 4 (v := .slice none 0 0) rfl
        have f4 := hb.blk.frozen 4
        have r5 := hb.blk.cell 5 (v := .bool false) rfl
        have f5 := hb.blk.frozen 5
        have rl := hb.blk.lt
        have HS := Lib.hid hs
        have HBK := Lib.hid hb
        have HK0 := Lib.hid hk
        have H11 := Lib.hid h11
        clear hs hd hcl hb hk ek hL h11
        go_wp2
        have h11 := H11.out
        have hC := six_chgT (· = k10) y.world (b := k10) rfl (.int .i64 start) (.int .i64 gin) (.int .i64 gout) (.slice a7 bl.length c7) (.slice s7 sn d7) (.bool z7)
        refine ⟨⟨fun h => absurd h (by decide), fun h => absurd h (by decide), fun h => absurd h (by decide), fun h => absurd h (by decide), fun h => absurd h (by decide), fun h => absurd h (by decide)⟩, ⟨y.chgd hC (fun b hb => .inl (by rw [show b = k10 from hb]; exact HK0.out)), rfl⟩, ⟨(fun _ h => by have h : L 11 = false := h; rw [h11] at h; cases h), (fun _ h => by have h : L 11 = false := h; rw [h11] at h; cases h), fun e => ?_, ?_, ?_⟩⟩
        · obtain ⟨q1, q2, l1, l2, l3, l4, m0, m1, m2, m3⟩ := HS.out.exa e
          exact ⟨q1, q2, l1, l2, l3, l4, m0, m1, own_chg m2 hC (fun q hq => own_neT m2 HBK.out (by decide) q hq), own_chg m3 hC (fun q hq => own_neT m3 HBK.out (by decide) q hq)⟩
        · intro e
          obtain ⟨kk, ek, hk, hb⟩ := HS.out.b17 e
          exact ⟨kk, ek, hk, hb.chg hC (fun h => BlkT.ne hb HBK.out (by decide) h)⟩
        · intro _
          refine ⟨k10, e_18, HK0.out, ?_⟩
          show BlkT _ k10 (legC7 (u 11)) 28
          rw [e_11]
          exact six_setT HBK.out (.int .i64 start) (.int .i64 gin) (.int .i64 gout) (.slice a7 bl.length c7) (.slice s7 sn d7) (.bool z7)
      go_simp
      with_reducible refine hK _ ?_
      clear hK K
      refine lx_next 2 (by rfl) (by decide) ?_
      dsimp only [List.take, List.drop]
      repeat (go_big_quiet_step (fail))
      refine wpQuiet_nil ?_
      refine lx_nil ?_
      intro y hs
      obtain ⟨vs, x, l1, l2, l3, l4, hF, m1, m2, m3⟩ := hs.exa rfl
      obtain ⟨kk, ek, hk9, -⟩ := hs.b17 rfl
      obtain rfl : k9 = kk := by rw [e_17] at ek; cases ek; rfl
      obtain ⟨kk, ek2, hk10, hb10⟩ := hs.b18 rfl
      obtain rfl : k10 = kk := by rw [e_18] at ek2; cases ek2; rfl
      unfold ExaV at m1
      have HB10 : Hid (Blk y.world k10 #[.int .i64 start, .int .i64 gin, .int .i64 gout, .slice l1 bl.length l2, .slice l3 x.scores.length l4, .bool x.won]) := Lib.hid (by have h := hb10.blk; rw [m1] at h; exact h)
      have HOL : Hid (OwnD y.world w5.heap.size (.slice l1 bl.length l2) bl) := Lib.hid m2
      have HOS : Hid (OwnI y.world w5.heap.size (.slice l3 x.scores.length l4) x.scores) := Lib.hid m3
      have HX7 : Hid (Ext w5 y.world) := Lib.hid (Lat.ext0 y)
      have HF := Lib.hid hF
      clear hs hu hT hne2 e_1 e_3 e_9 e_11 e_17 e_18 m1 m2 m3 hb10 ek ek2 hk9 hk10 hF
      generalize y.world = w6 at *
      clear y
      go_wp2
      go_meet
      exact ⟨k10, vs, x, l1, l2, l3, l4, rfl, rfl, rfl, HF.out, HB10.out, HOL.out, HOS.out, HX7.out⟩
    case rest =>
    obtain ⟨k10, vs, x, l1, l2, l3, l4, hc1, hc2, hc3, hF, hb10, hol, hos, hx6⟩ := hcut
    subst hc1
    subst hc2
    subst hc3
    obtain ⟨w6, rfl⟩ : ∃ y, y = wc := ⟨_, rfl⟩
    clear m0 m1 m2 ml c0 c1 c2 c3 cl HTL
    have HX6 := Lib.hid (HX5.out.trans hx6)
    have HL6 := Lib.hid (HL5.out.ext hx6)
    have HOK := Lib.hid (hF.ok HLAW.out)
    have HB10 := Lib.hid hb10
    have HOL := Lib.hid (own_mono hol HX5.out.size)
    have HOS := Lib.hid (own_mono hos HX5.out.size)
    clear hF hb10 hol hos hx6 HB5 HC5 HL5 HOB5
    have HSZw6 := Lib.hid HX6.out.size
    have HSZB : Hid (w2.heap.size ≤ w2.heap.size) := Lib.hid (Nat.le_refl _)
    obtain ⟨vals, hv1, hv2, hv3⟩ := HL6.out.ext ((Ext.refl w6).alloc (.cells #[.int .i64 start, .int .i64 gin, .int .i64 gout, .slice l1 bl.length l2, .slice l3 x.scores.length l4, .bool x.won] 28))
    rw [List.length_map, HDK.out] at hv1 hv2
    have HROW := Lib.hid hv1
    have HV2 := Lib.hid hv2
    have HV3 := Lib.hid hv3
    clear hv1 hv2 hv3
    have g0 := HB10.out.cell 0 (v := .int .i64 start) rfl
    have g1 := HB10.out.cell 1 (v := .int .i64 gin) rfl
    have g2 := HB10.out.cell 2 (v := .int .i64 gout) rfl
    have g3 := HB10.out.cell 3 (v := .slice l1 bl.length l2) rfl
    have g4 := HB10.out.cell 4 (v := .slice l3 x.scores.length l4) rfl
    have g5 := HB10.out.cell 5 (v := .bool x.won) rfl
    have gl := HB10.out.lt
    go_wp2_with (at_builtin; refine wp_append_from rfl _ _ 75 28 _ 6 80 rfl info_ml (by kernel_rfl) rfl (by decide) w2.heap.size lv k _ rfl HROW.out (some ⟨w6.heap.size, 0, none⟩) 1 1 [.int .i64 start, .int .i64 gin, .int .i64 gout, .slice l1 bl.length l2, .slice l3 x.scores.length l4, .bool x.won] rfl (fun h => by cases h) rfl ?_ ?_ (by omega) (by omega) (by have h2 := HSZB.out; have h3 := HSZw6.out; simp; omega) ?_)
    · intro ad had j' u hj
      cases had
      match j', hj with
      | 0, hj => cases hj; rw [addr_add]; exact (Blk.new w6 _ _).cell 0 rfl
      | 1, hj => cases hj; rw [addr_add]; exact (Blk.new w6 _ _).cell 1 rfl
      | 2, hj => cases hj; rw [addr_add]; exact (Blk.new w6 _ _).cell 2 rfl
      | 3, hj => cases hj; rw [addr_add]; exact (Blk.new w6 _ _).cell 3 rfl
      | 4, hj => cases hj; rw [addr_add]; exact (Blk.new w6 _ _).cell 4 rfl
      | 5, hj => cases hj; rw [addr_add]; exact (Blk.new w6 _ _).cell 5 rfl
    · intro u hu
      simp only [List.mem_cons, List.not_mem_nil, or_false] at hu
      rcases hu with rfl | rfl | rfl | rfl | rfl | rfl <;> rfl
    intro v7 w7 hO7 hg7 hn7
    have HL7 : Hid (LgsO w7 w2.heap.size v7 ((ds ++ [(Tld.mk start gin gout vs x)]).map (Tld.leg bl))) := Lib.hid (by
      rw [List.map_append]
      have hal : Ext w6 (w6.alloc (.cells #[.int .i64 start, .int .i64 gin, .int .i64 gout, .slice l1 bl.length l2, .slice l3 x.scores.length l4, .bool x.won] 28)) := (Ext.refl w6).alloc _
      have hlen : (ds.map (Tld.leg bl)).length = k := by rw [List.length_map, HDK.out]
      exact LgsO.snoc (l := Tld.leg bl (Tld.mk start gin gout vs x)) (ba := l1) (bc := l2) (sa := l3) (sc := l4) (vals := vals) (by rw [hlen]; exact HROW.out) (by rw [hlen]; exact HV2.out) HV3.out (OwnD.ext HOL.out hal) (own_chg HOS.out (hal.chg fun _ => False) fun _ _ => id) (by rw [hlen]; exact hO7) hg7)
    have HX7 : Hid (Ext w2 w7) := Lib.hid (Chg.to_ext (HX6.out.alloc _) hg7 (fun i hi => (World.ownsRow.lt HROW.out i hi).1))
    have HDN : Hid (∀ d ∈ ds ++ [(Tld.mk start gin gout vs x)], d.ok bl) := Lib.hid (fun d hd => by
      rcases List.mem_append.1 hd with h | h
      · exact HD.out d h
      · rw [List.mem_singleton.1 h]; exact HOK.out)
    have HLEN2 : Hid ((ds ++ [(Tld.mk start gin gout vs x)]).length = k + 1) := Lib.hid (by rw [List.length_append, HDK.out]; rfl)
    obtain ⟨ds2, hds2⟩ : ∃ l, ds ++ [(Tld.mk start gin gout vs x)] = l := ⟨_, rfl⟩
    rw [hds2] at HDN HLEN2 HL7
    clear hds2 hO7 hg7 hn7 g0 g1 g2 g3 g4 g5 gl HROW HV2 HV3 HL6 HB10 HOL HOS
    go_wp2
    go_roundw
    case rel => exact ⟨k + 1, ds2, _, by omega, HLEN2.out, rfl, by go_num, HL7.out, HDN.out, HX7.out⟩
    case measure => simp [intOf]; omega
end Go.Proofs.Ytmopadnkjlodnaa
