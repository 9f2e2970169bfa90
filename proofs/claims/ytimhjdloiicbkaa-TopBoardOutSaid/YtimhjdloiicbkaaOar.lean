/-
  TopThrownOut: the walk.
-/
import Derived.Test.YtimhjdloiicbkaaOao
import Derived.Test.YtimhjdloiicbkaaOaq
import Derived.Test.YtimhjdloiicbkaaOwa
import Derived.Test.YtimhjdloiicbkaaApp
namespace Go.Proofs.Ytimhjdloiicbkaa
open Go.RowKit Go.BigFrame
attribute [local go_sem] Later.cell Later.frozen
/-- The beds of the first points that are on the board. -/
def lstA (f : Nat → Nat) (wire : Nat) (p : Nat → Nat) (k : Nat) : List Int := ((List.range k).map fun i => bedA f wire (p (2 * i)) (p (2 * i + 1))).filter fun x => decide (x ≠ 0)
theorem lstA_succ (f : Nat → Nat) (wire : Nat) (p : Nat → Nat) (k : Nat) : lstA f wire p (k + 1) = lstA f wire p k ++ (if bedA f wire (p (2 * k)) (p (2 * k + 1)) = 0 then [] else [bedA f wire (p (2 * k)) (p (2 * k + 1))]) := by
  unfold lstA
  rw [List.range_succ, List.map_append, List.filter_append]
  simp only [List.map_cons, List.map_nil]
  by_cases h : bedA f wire (p (2 * k)) (p (2 * k + 1)) = 0 <;> simp [h]
theorem lstA_mem {f : Nat → Nat} {wire : Nat} {p : Nat → Nat} {k : Nat} {x : Int} (h : x ∈ lstA f wire p k) : x ∈ bedsA f wire ∧ x ≠ 0 := by
  unfold lstA at h
  obtain ⟨h1, h2⟩ := List.mem_filter.1 h
  obtain ⟨i, -, rfl⟩ := List.mem_map.1 h1
  have h2 : bedA f wire (p (2 * i)) (p (2 * i + 1)) ≠ 0 := by simpa using h2
  exact ⟨(bedA_mem f wire _ _).resolve_left h2, h2⟩
theorem lstA_len (f : Nat → Nat) (wire : Nat) (p : Nat → Nat) (k : Nat) : (lstA f wire p k).length ≤ k := by
  unfold lstA
  refine Nat.le_trans (List.length_filter_le _ _) ?_
  simp
theorem scoL_snoc (l : List Int) (x : Int) : scoL (l ++ [x]) = scoL l + wrt x := by unfold scoL; simp
theorem scoL_le {l : List Int} (h : ∀ x ∈ l, 1 ≤ wrt x ∧ wrt x ≤ 100) : l.length ≤ scoL l ∧ scoL l ≤ 100 * l.length := by
  induction l with
  | nil => simp [scoL]
  | cons x l ih =>
    have h1 := ih fun y hy => h y (by simp [hy])
    have h2 := h x (by simp)
    rw [scoL_cons, List.length_cons]
    push_cast
    omega
theorem info_bedA : (Try.prog.info? 37).map (fun i => (i.zero, i.size, i.bytes)) = some (some (.int .i64 0), 1, 8) := by kernel_rfl
theorem bogO_le (rows : List (List Int)) (k : Nat) : (bogO rows k).length ≤ k := by
  unfold bogO
  rw [List.length_map]
  exact Nat.le_trans (List.length_filter_le _ _) (by simp)
theorem cellsA (v : BrdV) (f : Nat → Nat) (wire : Nat) : v.cells (armB f wire) = #[.int .i64 64, .int .i64 159, .slice v.ra 4 v.rc, .slice v.la 20 v.lc, .slice v.na 20 v.nc, .int .i64 ((wire : Int) % 11)] := by
  unfold BrdV.cells armB
  rw [linA_len]
  rfl
theorem own_cells2 {w : World} {base : Nat} {e : TypeId} {a : Option Addr} {n c : Nat} {xs : List Value} (h : w.ownsRow base e 2 (.slice a n c) n xs) (hn : 0 < n) : ∃ b, a = some ⟨b, 0, none⟩ ∧ ∀ i v, xs[i]? = some v → w.cell? ⟨b, i, none⟩ = some v := by
  obtain ⟨h1, ⟨e1, h2⟩ | ⟨g, cap, cur, e1, h2, h3, h4, h5, h6, h7⟩⟩ := h
  · omega
  · cases e1
    refine ⟨g, rfl, fun i v hv => ?_⟩
    have hi := (List.getElem?_eq_some_iff.1 hv).1
    rw [← h7] at hv
    rw [List.getElem?_take_of_lt (by rw [h1] at hi; exact hi)] at hv
    exact Blk.cell ⟨_, h3⟩ i (by simpa using hv)
theorem rgs_flat : ∀ (l : List Rg) (i : Nat) (h : i < l.length), (ringC l)[i * 2]? = some (.int .i64 l[i].outer) ∧ (ringC l)[i * 2 + 1]? = some (.int .i64 l[i].factor)
  | [], i, h => by cases h
  | r :: l, 0, _ => ⟨rfl, rfl⟩
  | r :: l, i + 1, h => by
    have := rgs_flat l i (by simpa using h)
    show ([Value.int .i64 r.outer, .int .i64 r.factor] ++ ringC l)[(i + 1) * 2]? = _ ∧ ([Value.int .i64 r.outer, .int .i64 r.factor] ++ ringC l)[(i + 1) * 2 + 1]? = _
    rw [List.getElem?_append_right (by simp; omega), List.getElem?_append_right (by simp; omega)]
    simp only [List.length_cons, List.length_nil, List.getElem_cons_succ]
    rw [show (i + 1) * 2 - (0 + 1 + 1) = i * 2 by omega, show (i + 1) * 2 + 1 - (0 + 1 + 1) = i * 2 + 1 by omega]
    exact this
theorem pts_flat : ∀ (l : List Pt) (i : Nat) (h : i < l.length), (pntC l)[i * 2]? = some (.int .i64 l[i].x) ∧ (pntC l)[i * 2 + 1]? = some (.int .i64 l[i].y)
  | [], i, h => by cases h
  | r :: l, 0, _ => ⟨rfl, rfl⟩
  | r :: l, i + 1, h => by
    have := pts_flat l i (by simpa using h)
    show ([Value.int .i64 r.x, .int .i64 r.y] ++ pntC l)[(i + 1) * 2]? = _ ∧ ([Value.int .i64 r.x, .int .i64 r.y] ++ pntC l)[(i + 1) * 2 + 1]? = _
    rw [List.getElem?_append_right (by simp; omega), List.getElem?_append_right (by simp; omega)]
    simp only [List.length_cons, List.length_nil, List.getElem_cons_succ]
    rw [show (i + 1) * 2 - (0 + 1 + 1) = i * 2 by omega, show (i + 1) * 2 + 1 - (0 + 1 + 1) = i * 2 + 1 by omega]
    exact this
theorem ArmO.at_ {base : Nat} {W : World} {v : BrdV} {b : Brd} (h : ArmO base W v b) : BrdAt W v b := by
  refine ⟨fun i hi => ?_, fun i hi => ?_, ?_⟩
  · obtain ⟨g, e, hc⟩ := own_cells2 h.rings (by omega)
    have := rgs_flat b.rings i hi
    exact ⟨g, 0, e, by simpa using hc _ _ this.1, by simpa using hc _ _ this.2⟩
  · obtain ⟨g, e, hc⟩ := own_cells2 h.lines (by omega)
    have := pts_flat b.lines i hi
    exact ⟨g, 0, e, by simpa using hc _ _ this.1, by simpa using hc _ _ this.2⟩
  · obtain ⟨nb, e, -, hb⟩ := h.nums
    exact fun i hi => ⟨nb, 0, e, by simpa using hb.blk.cell i (v := .int .i64 b.nums[i]) (by simp [hi])⟩
set_option maxRecDepth 100000 in
set_option maxHeartbeats 8000000 in
theorem thrown_out (f p : Nat → Nat) (gate : Nat) (w : World) (hf : ∀ k, f k < 256) (hp : ∀ k, p k < 65536) (hg : gate < 256) :
    Calls Try.prog 4 #[.agg #[.int .u8 (f 0), .int .u8 (f 1), .int .u8 (f 2), .int .u8 (f 3)], .agg #[.int .u16 (p 0), .int .u16 (p 1), .int .u16 (p 2), .int .u16 (p 3), .int .u16 (p 4), .int .u16 (p 5)], .int .u8 gate] w fun e w' => e = .returned (.bool true) ∧ Ext w w' := by
  have HF := Lib.hid hf
  have HP := Lib.hid hp
  have hq : ((gate : Int) / 3) = ((gate / 3 : Nat) : Int) := by omega
  have hr : ((gate : Int) % 3) = ((gate % 3 : Nat) : Int) := by omega
  have HQ := Lib.hid hq
  have HR := Lib.hid hr
  clear hf hp hq hr
  go_enter Try.func4, Try.ntmps4
  go_wp2_with fail
  rw [HQ.out]
  refine (arm_Board f (gate / 3) _ HF.out (by omega)).mono ?_
  rintro e w1 ⟨v, rfl, ho1, hx1⟩
  have hb1 : BrdAt w1 v (armB f (gate / 3)) := ho1.at_
  obtain ⟨wire, hwire⟩ : ∃ y, gate / 3 = y := ⟨_, rfl⟩
  obtain ⟨g, hgg⟩ : ∃ y, gate % 3 = y := ⟨_, rfl⟩
  rw [hgg] at HR
  rw [hwire] at hb1 HQ ⊢
  have hg3 : g ≤ 2 := by omega
  rw [cellsA]
  obtain ⟨ra, la, na, rc, lc, nc⟩ := v
  simp only
  have hx01 : Ext w w1 := (((Ext.refl w).alloc _).alloc _).trans hx1
  have HPB := Lib.hid (show Blk w1 (w.heap.size + 1) #[.int .u16 (p 0), .int .u16 (p 1), .int .u16 (p 2), .int .u16 (p 3), .int .u16 (p 4), .int .u16 (p 5)] from Blk.ext (Blk.at _ (by simp)) hx1)
  have HX1 := Lib.hid hx01
  have HB1 := Lib.hid hb1
  clear hx1 hx01 hb1 ho1 hgg hwire
  go_wp2_with fail
  rw [HR.out]
  have hc := brd_All ⟨ra, la, na, rc, lc, nc⟩ (armB f wire) (w1.alloc (.cells #[.int .i64 64, .int .i64 159, .slice ra 4 rc, .slice la 20 lc, .slice na 20 nc, .int .i64 ((wire : Int) % 11)] 29)) (HB1.out.ext ((Ext.refl w1).alloc _)) (smallA f wire)
  rw [cellsA, allA] at hc
  refine hc.mono ?_
  rintro e w2 ⟨u, rfl, ho2, hx2⟩
  obtain ⟨al, ac, rfl, hal⟩ := ho2.cells
  have hk2 : Blk w2 w1.heap.size #[.int .i64 64, .int .i64 159, .slice ra 4 rc, .slice la 20 lc, .slice na 20 nc, .int .i64 ((wire : Int) % 11)] := (Blk.new _ _ _).ext hx2
  have hxx : Ext w1 w2 := ((Ext.refl w1).alloc _).trans hx2
  have HK2 := Lib.hid hk2
  have HB2 := Lib.hid (HB1.out.ext hxx)
  have HP2 := Lib.hid (HPB.out.ext hxx)
  have HX2 := Lib.hid (HX1.out.trans hxx)
  have HAL := Lib.hid hal
  have hlen := bedsA_len f wire
  obtain ⟨n, hn⟩ : ∃ y, (bedsA f wire).length = y := ⟨_, rfl⟩
  rw [hn] at hlen ⊢
  have HN := Lib.hid hn
  obtain ⟨hn2, hn82⟩ := hlen
  clear hc ho2 hx2 hal hk2 hxx HB1 HPB HX1 hn
  simp only
  go_upto_region 7 with fail
  have hol : OwnZ (w2.alloc (.cells #[] 37)) w2.heap.size (.slice (some ⟨w2.heap.size, 0, none⟩) 0 0) (lstA f wire p 0) := own_empty rfl (Nat.le_refl _)
  obtain ⟨w3, hw3⟩ : ∃ y, y = w2.alloc (.cells #[] 37) := ⟨_, rfl⟩
  rw [← hw3] at hol ⊢
  have hx3 : Ext w2 w3 := by rw [hw3]; exact (Ext.refl w2).alloc _
  have HOL := Lib.hid hol
  have HX3 := Lib.hid hx3
  clear hw3 hol hx3
  go_loopw [11, 12, 13] (fun lv sv i wr => ∃ k : Nat, k ≤ 3 ∧ sv = .int .i64 (scoL (lstA f wire p k)) ∧ i = .int .i64 k ∧ OwnZ wr w2.heap.size lv (lstA f wire p k) ∧ Ext w2 wr) (fun _ _ i _ => 3 - (intOf i).toNat)
  case atStart => exact ⟨0, by omega, rfl, rfl, HOL.out, HX3.out⟩
  case round =>
    rename_i lv sv i
    obtain ⟨k, hk, rfl, rfl, hol, hx⟩ := hrel
    obtain ⟨w4, rfl⟩ : ∃ y, y = wr := ⟨_, rfl⟩
    have HO4 := Lib.hid hol
    have HX4 := Lib.hid hx
    have hsl : (lstA f wire p k).length ≤ 3 ∧ 0 ≤ scoL (lstA f wire p k) ∧ scoL (lstA f wire p k) ≤ 300 := by
      have h1 := lstA_len f wire p k
      have h2 := scoL_le (l := lstA f wire p k) (fun x hx => (bedsA_wrt x (lstA_mem hx).1).2)
      omega
    obtain ⟨lk, hlk⟩ : ∃ y, lstA f wire p k = y := ⟨_, rfl⟩
    have hSU := lstA_succ f wire p k
    rw [hlk] at hsl HO4 hSU
    have HSU := Lib.hid hSU
    have HLK := Lib.hid hlk
    obtain ⟨sc, hsc⟩ : ∃ y, scoL lk = y := ⟨_, rfl⟩
    rw [hlk, hsc]
    rw [hsc] at hsl
    have HSC := Lib.hid hsc
    obtain ⟨hl3, hs0, hs300⟩ := hsl
    obtain ⟨oa, oc, rfl⟩ := own_shape HO4.out
    have HK4 := Lib.hid (HK2.out.ext HX4.out)
    have HP4 := Lib.hid (HP2.out.ext HX4.out)
    have HB4 := Lib.hid (HB2.out.ext HX4.out)
    obtain ⟨m, hm⟩ : ∃ y, lk.length = y := ⟨_, rfl⟩
    rw [hm] at hl3 ⊢
    have HM := Lib.hid hm
    clear hol hx hSU hlk hsc hm HOL HX3
    by_cases hlt : k < 3
    · have c0 := HK4.out.cell 0 (v := .int .i64 64) rfl
      have c1 := HK4.out.cell 1 (v := .int .i64 159) rfl
      have c2 := HK4.out.cell 2 (v := .slice ra 4 rc) rfl
      have c3 := HK4.out.cell 3 (v := .slice la 20 lc) rfl
      have c4 := HK4.out.cell 4 (v := .slice na 20 nc) rfl
      have c5 := HK4.out.cell 5 (v := .int .i64 ((wire : Int) % 11)) rfl
      have cl := HK4.out.lt
      have hlt' : (k : Int) < 3 := by omega
      obtain ⟨pa, hpa⟩ : ∃ y, p (2 * k) = y := ⟨_, rfl⟩
      obtain ⟨pb, hpb⟩ : ∃ y, p (2 * k + 1) = y := ⟨_, rfl⟩
      have hpa2 : pa < 65536 := by rw [← hpa]; exact HP.out _
      have hpb2 : pb < 65536 := by rw [← hpb]; exact HP.out _
      have q0 : w4.cell? ⟨w.heap.size + 1, k * 2, none⟩ = some (.int .u16 pa) := by
        rw [← hpa]
        match k, hlt with
        | 0, _ => exact HP4.out.cell 0 rfl
        | 1, _ => exact HP4.out.cell 2 rfl
        | 2, _ => exact HP4.out.cell 4 rfl
      have q1 : w4.cell? ⟨w.heap.size + 1, k * 2 + 1, none⟩ = some (.int .u16 pb) := by
        rw [← hpb]
        match k, hlt with
        | 0, _ => exact HP4.out.cell 1 rfl
        | 1, _ => exact HP4.out.cell 3 rfl
        | 2, _ => exact HP4.out.cell 5 rfl
      have ql := HP4.out.lt
      rw [hpa, hpb] at HSU
      obtain ⟨bd, hbd⟩ : ∃ y, bedA f wire pa pb = y := ⟨_, rfl⟩
      obtain ⟨ow, how⟩ : ∃ y, (bedR (armB f wire) (pntA pa pb)).2.1 = y := ⟨_, rfl⟩
      have HC1 := Lib.hid (fun (x : Later w4) => arm_Point pa pb x.world hpa2 hpb2)
      have HC2 : Hid (∀ x : Later w4, Calls Try.prog 10 #[.agg #[.int .i64 64, .int .i64 159, .slice ra 4 rc, .slice la 20 lc, .slice na 20 nc, .int .i64 ((wire : Int) % 11)], (pntA pa pb).agg] x.world fun e w' => e = .returned (.tuple #[.int .i64 bd, .bool ow, .int .i64 0]) ∧ Ext x.world w') := Lib.hid (fun x => by
        have h := brd_Bed ⟨ra, la, na, rc, lc, nc⟩ (armB f wire) (pntA pa pb) x.world (HB4.out.ext x.ext) (smallA f wire)
        rw [cellsA, (bedRA f wire pa pb).1, (bedRA f wire pa pb).2, hbd, how] at h
        exact h)
      have hbm : bd = 0 ∨ bd ∈ bedsA f wire := by rw [← hbd]; exact bedA_mem f wire pa pb
      rw [hbd] at HSU
      have HBM := Lib.hid hbm
      clear hpa hpb hbd how hbm
      go_upto_region 9 with fail
      refine wp_region_later (by kernel_rfl) (by kernel_rfl) ?_
      repeat (go_big_quiet_step (first | with_reducible refine Calls.later (HC1.out _) | with_reducible refine Calls.later (HC2.out _)))
      refine wpQuiet_nil ?_
      intro w5 hw5
      obtain ⟨⟨w5, hx5⟩, rfl⟩ := hw5
      have HX5 := Lib.hid (HX4.out.trans hx5)
      have HO5 : Hid (w5.ownsRow w2.heap.size 37 1 (.slice oa m oc) m (lk.map encZ)) := Lib.hid (by
        have h := own_chg HO4.out (hx5.chg fun _ => False) fun _ _ => fun a => a
        rw [HM.out] at h
        exact h)
      clear hx5 c0 c1 c2 c3 c4 c5 cl q0 q1 ql HC1 HC2 HK4 HP4 HB4
      by_cases hb0 : bd = 0
      · subst hb0
        go_wp2
        go_roundw
        case rel =>
          refine ⟨k + 1, by omega, ?_, by go_num, ?_, HX5.out⟩
          · rw [HSU.out, if_pos rfl, List.append_nil, HSC.out]
          · rw [HSU.out, if_pos rfl, List.append_nil]
            show w5.ownsRow _ _ _ (.slice oa m oc) lk.length _
            rw [HM.out]
            exact HO5.out
        case measure => simp [intOf]; omega
      · have hbw := bedsA_wrt bd (HBM.out.resolve_left hb0)
        obtain ⟨hi64, hw1, hw100⟩ := hbw
        obtain ⟨wb, hwb⟩ : ∃ y, wrt bd = y := ⟨_, rfl⟩
        have HSCO := Lib.hid (fun W => arm_Score bd W hi64)
        rw [hwb] at HSCO hw1 hw100
        have HWB := Lib.hid hwb
        have hb0' : (bd != 0) = true := by simpa using hb0
        clear hwb hi64
        have hal : Ext w5 (w5.alloc (.cells #[.int .i64 bd] 37)) := (Ext.refl w5).alloc _
        have HO5a := Lib.hid (own_chg HO5.out (hal.chg fun _ => False) fun _ _ => fun a => a)
        have HS5 := Lib.hid (Nat.le_trans HX5.out.size hal.size)
        go_wp2_with (at_builtin; refine wp_append_from rfl _ _ 33 37 _ 1 8 rfl info_bedA (by kernel_rfl) rfl (by decide) w2.heap.size (.slice oa m oc) m (lk.map encZ) rfl HO5a.out (some ⟨w5.heap.size, 0, none⟩) 1 1 [.int .i64 bd] rfl (fun h => by cases h) rfl ?_ ?_ (by omega) (by omega) HS5.out ?_)
        · intro ad had j' u hj
          cases had
          match j', hj with
          | 0, hj => cases hj; rw [addr_add]; exact (Blk.new w5 _ _).cell 0 rfl
        · intro u hu
          simp only [List.mem_cons, List.not_mem_nil, or_false] at hu
          rcases hu with rfl
          rfl
        intro v' w6 hO6 hg6 hn6
        obtain ⟨va, vc, rfl⟩ := own_shape hO6
        have HX6 := Lib.hid (Chg.to_ext (HX5.out.trans hal) hg6 (fun q hq => (World.ownsRow.lt HO5.out q hq).1))
        have HO6 := Lib.hid hO6
        clear hO6 hg6 hn6 hal HO5a HS5
        go_wp2_with fail
        refine (HSCO.out _).mono ?_
        rintro e w7 ⟨rfl, hx7⟩
        have HX7 := Lib.hid (HX6.out.trans hx7)
        have HO7 := Lib.hid (own_chg HO6.out (hx7.chg fun _ => False) fun _ _ => fun a => a)
        clear hx7 HSCO
        go_wp2
        go_roundw
        case rel =>
          refine ⟨k + 1, by omega, ?_, by go_num, ?_, HX7.out⟩
          · rw [HSU.out, if_neg hb0, scoL_snoc, HSC.out, HWB.out]
          · rw [HSU.out, if_neg hb0]
            show w7.ownsRow _ _ _ (.slice va (m + 1) vc) (lk ++ [bd]).length ((lk ++ [bd]).map encZ)
            rw [List.length_append, HM.out, List.map_append]
            exact HO7.out
        case measure => simp [intOf]; omega
    · have HME : Hid (∀ x ∈ lk, x ∈ bedsA f wire ∧ x ≠ 0) := Lib.hid (by rw [← HLK.out]; exact fun x hx => lstA_mem hx)
      have HOM : Hid (w4.ownsRow w2.heap.size 37 1 (.slice oa m oc) m (lk.map encZ)) := Lib.hid (by
        have h := HO4.out
        unfold OwnZ at h
        rw [HM.out] at h
        exact h)
      have HCA : Hid (CellsAt w4 .i64 oa lk) := Lib.hid (by
        obtain ⟨a, c, e, h⟩ := OwnZ.cells HO4.out
        cases e
        exact h)
      have HAL4 := Lib.hid (HAL.out.ext HX4.out)
      have HXW := Lib.hid (HX2.out.trans HX4.out)
      clear HSU HLK HO4 HK4 HP4 HB4 HK2 HB2 HP2 HAL HX4 HX2 HP HF HQ
      go_upto_region 16 with fail
      go_loopw [17, 18, 19] (fun lv ok i wr => ∃ (j : Nat) (left : Int) (okb : Bool), j ≤ m ∧ lv = .int .i64 left ∧ ok = .bool okb ∧ i = .int .i64 j ∧ (okb && thrL g left (lk.drop j)) = (decide (0 < m) && thrL g sc lk) ∧ left ≤ 300 ∧ -(100 * (j : Int)) ≤ left ∧ Ext w4 wr) (fun _ _ i _ => m - (intOf i).toNat)
      case atStart => exact ⟨0, sc, decide (0 < m), by omega, rfl, rfl, rfl, by rw [List.drop_zero], by omega, by omega, Ext.refl _⟩
      case round =>
        rename_i lv ok i
        obtain ⟨j, left, okb, hj, rfl, rfl, rfl, heq, hle, hge, hx⟩ := hrel
        obtain ⟨w5, rfl⟩ : ∃ y, y = wr := ⟨_, rfl⟩
        have HE := Lib.hid heq
        have HX5 := Lib.hid hx
        clear heq hx
        by_cases hlj : j < m
        · have hjl : j < lk.length := by rw [HM.out]; exact hlj
          obtain ⟨bb, bo, rfl, hc0⟩ := HCA.out j hjl
          replace hc0 := HX5.out.cell hc0
          have hcl := lt_of_cell hc0
          simp only at hcl hc0
          have hdr := List.drop_eq_getElem_cons hjl
          have hxm := HME.out lk[j] (List.getElem_mem hjl)
          obtain ⟨x, hx⟩ : ∃ y, lk[j] = y := ⟨_, rfl⟩
          rw [hx] at hc0 hdr hxm
          clear hx
          have hbw := bedsA_wrt x hxm.1
          obtain ⟨hi64, hw1, hw100⟩ := hbw
          have hx0 := hxm.2
          have HI := Lib.hid hi64
          have HX0 := Lib.hid hx0
          have HDR := Lib.hid hdr
          obtain ⟨wx, hwx⟩ : ∃ y, wrt x = y := ⟨_, rfl⟩
          have HSCO := Lib.hid (fun W => arm_Score x W hi64)
          rw [hwx] at HSCO hw1 hw100
          have HT : Hid (thrL g left (lk.drop j) = ((decide (lowA g ≤ left - wx) || ((lk.drop (j + 1)).isEmpty && (decide (left - wx = 0) && opnO g x))) && thrL g (left - wx) (lk.drop (j + 1)))) := Lib.hid (by rw [hdr, thrL, hwx])
          have HEM : Hid ((lk.drop (j + 1)).isEmpty = decide (j + 1 = m)) := Lib.hid (by
            rw [Bool.eq_iff_iff, List.isEmpty_iff, List.drop_eq_nil_iff, HM.out, decide_eq_true_eq]
            omega)
          clear hxm hdr hi64 hx0 hwx hjl
          have hlj' : (j : Int) < (m : Int) := by omega
          go_wp2_with fail
          refine (HSCO.out _).mono ?_
          rintro e w6 ⟨rfl, hx6⟩
          have HX6 := Lib.hid (HX5.out.trans hx6)
          replace hc0 := hx6.cell hc0
          have hcl := lt_of_cell hc0
          simp only at hcl
          clear hx6 HSCO
          go_upto_region 19 with fail
          obtain ⟨nl, hnl⟩ : ∃ y, left - wx = y := ⟨_, rfl⟩
          rw [hnl] at HT ⊢
          have hnb : nl ≤ 300 ∧ -(100 * ((j : Int) + 1)) ≤ nl := by omega
          obtain ⟨hn1, hn2⟩ := hnb
          clear hnl
          cases okb
          · go_wp2
            go_roundw
            case rel => exact ⟨j + 1, nl, false, by omega, rfl, rfl, by go_num, by rw [← HE.out]; rfl, hn1, by push_cast; omega, HX6.out⟩
            case measure => simp [intOf]; omega
          · have HLO := Lib.hid (fun W => arm_Lowest (g : Int) W)
            obtain ⟨low, hlow⟩ : ∃ y, lowA (g : Int) = y := ⟨_, rfl⟩
            rw [hlow] at HLO HT
            clear hlow
            by_cases hl : low ≤ nl
            · go_wp2_with fail
              refine (HLO.out _).mono ?_
              rintro e w7 ⟨rfl, hx7⟩
              have HX7 := Lib.hid (HX6.out.trans hx7)
              replace hc0 := hx7.cell hc0
              have hcl := lt_of_cell hc0
              simp only at hcl
              clear hx7 HLO
              go_wp2
              go_roundw
              case rel => exact ⟨j + 1, nl, true, by omega, rfl, rfl, by go_num, by rw [← HE.out, HT.out]; simp [hl], hn1, by push_cast; omega, HX7.out⟩
              case measure => simp [intOf]; omega
            · have hl' : nl < low := by omega
              have HDL : Hid (decide (low ≤ nl) = false) := Lib.hid (decide_eq_false hl)
              by_cases hje : j + 1 = m
              · have hje' : ((j : Int) == (m : Int) - 1) = true := by simp; omega
                by_cases h0 : nl = 0
                · have HOP := Lib.hid (fun W => arm_Opens x (g : Int) W HI.out HX0.out (by omega))
                  have h0' : (nl == 0) = true := by simpa using h0
                  have HCO : Hid ((true && thrL (g : Int) left (lk.drop j)) = (opnO (g : Int) x && thrL (g : Int) nl (lk.drop (j + 1)))) := Lib.hid (by rw [HT.out, HEM.out, HDL.out, decide_eq_true hje, decide_eq_true h0]; simp)
                  rw [HE.out] at HCO
                  obtain ⟨op, hop⟩ : ∃ y, opnO (g : Int) x = y := ⟨_, rfl⟩
                  rw [hop] at HOP HCO
                  have HZ := Lib.hid h0
                  clear hop h0 hje
                  go_wp2_with fail
                  refine (HLO.out _).mono ?_
                  rintro e w7 ⟨rfl, hx7⟩
                  have HX7 := Lib.hid (HX6.out.trans hx7)
                  replace hc0 := hx7.cell hc0
                  have hcl := lt_of_cell hc0
                  simp only at hcl
                  clear hx7 HLO
                  go_wp2_with fail
                  refine (HOP.out _).mono ?_
                  rintro e w8 ⟨rfl, hx8⟩
                  have HX8 := Lib.hid (HX7.out.trans hx8)
                  clear hx8 HOP
                  go_wp2
                  go_roundw
                  case rel => exact ⟨j + 1, nl, decide (low ≤ nl) || op, by omega, rfl, rfl, by go_num, by rw [HDL.out, Bool.false_or]; exact HCO.out.symm, hn1, by push_cast; omega, HX8.out⟩
                  case measure => simp [intOf]; omega
                · have h0n := Lib.hid h0
                  have h0' : (nl == 0) = false := by simpa using h0
                  go_wp2_with fail
                  refine (HLO.out _).mono ?_
                  rintro e w7 ⟨rfl, hx7⟩
                  have HX7 := Lib.hid (HX6.out.trans hx7)
                  replace hc0 := hx7.cell hc0
                  have hcl := lt_of_cell hc0
                  simp only at hcl
                  clear hx7 HLO
                  go_wp2
                  go_roundw
                  case rel => exact ⟨j + 1, nl, decide (low ≤ nl), by omega, rfl, rfl, by go_num, by rw [← HE.out, HT.out, HEM.out, HDL.out, decide_eq_false h0n.out]; simp, hn1, by push_cast; omega, HX7.out⟩
                  case measure => simp [intOf]; omega
              · have hje' : ((j : Int) == (m : Int) - 1) = false := by simp; omega
                go_wp2_with fail
                refine (HLO.out _).mono ?_
                rintro e w7 ⟨rfl, hx7⟩
                have HX7 := Lib.hid (HX6.out.trans hx7)
                replace hc0 := hx7.cell hc0
                have hcl := lt_of_cell hc0
                simp only at hcl
                clear hx7 HLO
                go_wp2
                go_roundw
                case rel => exact ⟨j + 1, nl, decide (low ≤ nl), by omega, rfl, rfl, by go_num, by rw [← HE.out, HT.out, HEM.out, HDL.out, decide_eq_false hje]; simp, hn1, by push_cast; omega, HX7.out⟩
                case measure => simp [intOf]; omega
        · have hjm : j = m := by omega
          have hdn : lk.drop j = [] := by rw [List.drop_eq_nil_iff, HM.out]; omega
          have hT := HE.out
          rw [hdn, thrL, Bool.and_true] at hT
          clear hdn
          cases okb
          · clear hT
            have HXV := Lib.hid (HXW.out.trans HX5.out)
            go_wp2_with fail
            refine (arm_KnownOut _).mono ?_
            rintro e w6 ⟨rfl, hx6⟩
            go_wp2
            go_ret
            exact ⟨rfl, HXV.out.trans hx6⟩
          · have hT2 := hT.symm
            simp only [Bool.and_eq_true, decide_eq_true_eq] at hT2
            obtain ⟨hm0, hthr⟩ := hT2
            clear hT
            have HW82 : Hid ((bedsA f wire).length ≤ 82 ∧ ∀ x ∈ bedsA f wire, 1 ≤ wrt x) := Lib.hid ⟨by rw [HN.out]; exact hn82, fun x hx => (bedsA_wrt x hx).2.1⟩
            obtain ⟨s, rfl⟩ := Int.eq_ofNat_of_zero_le hs0
            have hs1 : m ≤ s := by
              have h2 := (scoL_le (l := lk) (fun x hx => (bedsA_wrt x (HME.out x hx).1).2)).1
              rw [HSC.out, HM.out] at h2
              omega
            have hru := rulA f wire (g := (g : Int)) (darts := (m : Int)) (by omega) (by omega)
            have hway : 1 ≤ totO (rwsO (g : Int) (bedsA f wire) s m) s := by
              have h := (tot_pos (g := (g : Int)) (most := s) (darts := m) HW82.out.1 HW82.out.2 (by omega) (Nat.le_refl s)).2 ⟨m - 1, by omega, by
                have h2 := thr_way (g := (g : Int)) (most := s) HW82.out.1 HW82.out.2 lk s (fun x hx => (HME.out x hx).1) HSC.out.symm hthr (by rw [HM.out]; omega) (Nat.le_refl s)
                rw [HM.out] at h2
                rw [show m - 1 + 1 = m by omega]
                exact h2⟩
              omega
            have hfew := thr_few (g := (g : Int)) HW82.out.2 lk s (fun x hx => (HME.out x hx).1) HSC.out.symm hthr
            have hfe0 := few_ge (g : Int) (bedsA f wire) HW82.out.2 s
            rw [HM.out] at hfew
            have hbg : ∀ x ∈ bogO (rwsO (g : Int) (bedsA f wire) s m) s, x ≠ (s : Int) := by
              intro x hx e
              obtain ⟨q, h1, h2, h3⟩ := mem_bogO.1 hx
              have : q + 1 = s := by omega
              rw [this] at h2
              omega
            have HNU := Lib.hid (fun W (hx : Ext w4 W) => out_Number (bedsA f wire) al ac (g : Int) m s W (HAL4.out.ext hx) hru (by omega))
            have HFE := Lib.hid (fun W (hx : Ext w4 W) => out_Fewest (bedsA f wire) al ac (g : Int) m s W (HAL4.out.ext hx) hru (by omega))
            have HBO := Lib.hid (fun W (hx : Ext w4 W) => out_Bogeys (bedsA f wire) al ac (g : Int) m s W (HAL4.out.ext hx) hru (by omega))
            rw [HN.out] at HNU HFE HBO
            have hfv : 1 ≤ fewA (g : Int) (bedsA f wire) s ∧ fewA (g : Int) (bedsA f wire) s ≤ m := by omega
            have HFL := Lib.hid (fewO_len (g : Int) (bedsA f wire) s)
            obtain ⟨fv, hfve⟩ : ∃ y, fewA (g : Int) (bedsA f wire) s = y := ⟨_, rfl⟩
            have hfat : (fewO (g : Int) (bedsA f wire) s)[s]? = some fv := by
              have h1 := HFL.out
              rw [List.getElem?_eq_getElem (by omega)]
              have h2 : (fewO (g : Int) (bedsA f wire) s).getD s 0 = fv := hfve
              rw [List.getD_eq_getElem?_getD, List.getElem?_eq_getElem (by omega)] at h2
              exact congrArg some h2
            have HFAT := Lib.hid hfat
            rw [hfve] at hfv
            obtain ⟨fl, hfl⟩ : ∃ y, fewO (g : Int) (bedsA f wire) s = y := ⟨_, rfl⟩
            obtain ⟨bl, hbl⟩ : ∃ y, bogO (rwsO (g : Int) (bedsA f wire) s m) s = y := ⟨_, rfl⟩
            obtain ⟨tn, htn⟩ : ∃ y, totO (rwsO (g : Int) (bedsA f wire) s m) s = y := ⟨_, rfl⟩
            rw [hfl] at HFE HFL HFAT
            have hbl3 := bogO_le (rwsO (g : Int) (bedsA f wire) s m) s
            rw [hbl] at HBO hbg hbl3
            rw [htn] at HNU hway
            have HBG := Lib.hid hbg
            obtain ⟨hf1, hfm⟩ := hfv
            clear hru hfew hfe0 hbg hfve hfat hfl hbl htn HE hthr HW82 HAL4 HME HSC HM HOM HCA HN
            have hx5s := HX5.out
            go_wp2_with fail
            refine (HNU.out _ (hx5s.alloc _)).mono ?_
            rintro e w6 ⟨rfl, hx6⟩
            have hr6 : Blk w6 w5.heap.size #[.slice al n ac, .int .i64 (g : Int), .int .i64 (m : Int)] := (Blk.new _ _ _).ext hx6
            have HX6 := Lib.hid ((hx5s.alloc (.cells #[.slice al n ac, .int .i64 (g : Int), .int .i64 (m : Int)] 40)).trans hx6)
            have r0 := hr6.cell 0 (v := .slice al n ac) rfl
            have r1 := hr6.cell 1 (v := .int .i64 (g : Int)) rfl
            have r2 := hr6.cell 2 (v := .int .i64 (m : Int)) rfl
            have rl := hr6.lt
            have HR6 := Lib.hid hr6
            clear hx6 hr6 HNU hx5s
            go_wp2_with fail
            refine (HFE.out _ HX6.out).mono ?_
            rintro e w7 ⟨v7, rfl, ho7, hx7⟩
            obtain ⟨a7, c7, rfl, hc7⟩ := OwnI.cells ho7
            have hr7 := HR6.out.ext hx7
            have r0 := hr7.cell 0 (v := .slice al n ac) rfl
            have r1 := hr7.cell 1 (v := .int .i64 (g : Int)) rfl
            have r2 := hr7.cell 2 (v := .int .i64 (m : Int)) rfl
            have rl := hr7.lt
            have HX7 := Lib.hid (HX6.out.trans hx7)
            have HC7 := Lib.hid hc7
            rw [HFL.out]
            clear hx7 hr7 ho7 hc7 HFE HR6
            go_wp2_with fail
            refine (HBO.out _ HX7.out).mono ?_
            rintro e w8 ⟨v8, rfl, ho8, hx8⟩
            obtain ⟨a8, c8, rfl, hc8⟩ := OwnI.cells ho8
            have HX8 := Lib.hid (HX7.out.trans hx8)
            have HC8 := Lib.hid hc8
            have hc7 := HC7.out.ext hx8
            have hsl : s < fl.length := by have := HFL.out; omega
            obtain ⟨fb, fo, rfl, f0⟩ := hc7 s hsl
            have e0 : fl[s] = fv := by
              have h := HFAT.out
              rw [List.getElem?_eq_getElem hsl] at h
              injection h
            rw [e0] at f0
            have fl0 := lt_of_cell f0
            simp only at fl0 f0
            obtain ⟨bn, hbn⟩ : ∃ y, bl.length = y := ⟨_, rfl⟩
            rw [hbn] at hbl3 ⊢
            have HBN := Lib.hid hbn
            clear hx8 ho8 hc8 hc7 hsl e0 hbn HBO HC7 HFAT r0 r1 r2 rl
            go_upto_region 28 with fail
            clear r0 r1 r2 rl f0 fl0
            go_wp2
            go_loopw [26] (fun i wr => ∃ q : Nat, q ≤ bn ∧ i = .int .i64 q ∧ Ext w8 wr) (fun i _ => bn - (intOf i).toNat)
            case atStart => exact ⟨0, by omega, rfl, Ext.refl _⟩
            case round =>
              obtain ⟨q, hq, rfl, hx⟩ := hrel
              obtain ⟨w9, rfl⟩ : ∃ y, y = wr := ⟨_, rfl⟩
              have HX9 := Lib.hid hx
              clear hx
              by_cases hlq : q < bn
              · have hlq' : (q : Int) < (bn : Int) := by omega
                have hql : q < bl.length := by rw [HBN.out]; exact hlq
                obtain ⟨gb, go, rfl, g0⟩ := HC8.out q hql
                replace g0 := HX9.out.cell g0
                have gl := lt_of_cell g0
                simp only at gl g0
                have hne := HBG.out bl[q] (List.getElem_mem hql)
                obtain ⟨y, hy⟩ : ∃ y, bl[q] = y := ⟨_, rfl⟩
                rw [hy] at g0 hne
                have hne' : (y == (s : Int)) = false := by simpa using hne
                clear hy hne hql
                go_wp2
                go_roundw
                case rel => exact ⟨q + 1, by omega, by go_num, HX9.out⟩
                case measure => simp [intOf]; omega
              · have HXV := Lib.hid (HXW.out.trans (HX8.out.trans HX9.out))
                go_wp2_with fail
                refine (arm_KnownOut _).mono ?_
                rintro e w10 ⟨rfl, hx10⟩
                go_wp2
                go_ret
                exact ⟨rfl, HXV.out.trans hx10⟩
theorem law_TopThrownOut (x0 x1 x2 x3 p0 p1 p2 p3 p4 p5 gate : Int) (w : World) (h0 : 0 ≤ x0 ∧ x0 ≤ 255) (h1 : 0 ≤ x1 ∧ x1 ≤ 255) (h2 : 0 ≤ x2 ∧ x2 ≤ 255) (h3 : 0 ≤ x3 ∧ x3 ≤ 255) (k0 : 0 ≤ p0 ∧ p0 ≤ 65535) (k1 : 0 ≤ p1 ∧ p1 ≤ 65535) (k2 : 0 ≤ p2 ∧ p2 ≤ 65535) (k3 : 0 ≤ p3 ∧ p3 ≤ 65535) (k4 : 0 ≤ p4 ∧ p4 ≤ 65535) (k5 : 0 ≤ p5 ∧ p5 ≤ 65535) (hg : 0 ≤ gate ∧ gate ≤ 255) :
    Calls Try.prog 4 #[.agg #[.int .u8 x0, .int .u8 x1, .int .u8 x2, .int .u8 x3], .agg #[.int .u16 p0, .int .u16 p1, .int .u16 p2, .int .u16 p3, .int .u16 p4, .int .u16 p5], .int .u8 gate] w fun e w' => e = .returned (.bool true) ∧ Ext w w' := by
  obtain ⟨n0, rfl⟩ := Int.eq_ofNat_of_zero_le h0.1
  obtain ⟨n1, rfl⟩ := Int.eq_ofNat_of_zero_le h1.1
  obtain ⟨n2, rfl⟩ := Int.eq_ofNat_of_zero_le h2.1
  obtain ⟨n3, rfl⟩ := Int.eq_ofNat_of_zero_le h3.1
  obtain ⟨m0, rfl⟩ := Int.eq_ofNat_of_zero_le k0.1
  obtain ⟨m1, rfl⟩ := Int.eq_ofNat_of_zero_le k1.1
  obtain ⟨m2, rfl⟩ := Int.eq_ofNat_of_zero_le k2.1
  obtain ⟨m3, rfl⟩ := Int.eq_ofNat_of_zero_le k3.1
  obtain ⟨m4, rfl⟩ := Int.eq_ofNat_of_zero_le k4.1
  obtain ⟨m5, rfl⟩ := Int.eq_ofNat_of_zero_le k5.1
  obtain ⟨gt, rfl⟩ := Int.eq_ofNat_of_zero_le hg.1
  exact thrown_out (fun | 0 => n0 | 1 => n1 | 2 => n2 | 3 => n3 | _ => 0) (fun | 0 => m0 | 1 => m1 | 2 => m2 | 3 => m3 | 4 => m4 | 5 => m5 | _ => 0) gt w (fun k => by split <;> omega) (fun k => by split <;> omega) (by omega)
end Go.Proofs.Ytimhjdloiicbkaa
