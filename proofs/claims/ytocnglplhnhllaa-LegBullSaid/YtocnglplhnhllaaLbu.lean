/-
  The statement LegBull: walked.
-/
import Derived.Test.YtocnglplhnhllaaBul
import Derived.Test.YtocnglplhnhllaaKno
import Derived.Deep.DeepCutAuto
namespace Go.Proofs.Ytocnglplhnhllaa
open Go.RowKit Go.BigFrame
attribute [local go_sem] Later.cell Later.frozen Lat.cell Lat.frozen
theorem bull_dart (x : Int) (hx : 0 ≤ x ∧ x ≤ 65535) (w : World) : Calls Try.prog 35 #[.int .u16 x] w fun e w' => e = .returned (.agg #[.int .i64 (dartO x).bed, .int .i64 (dartO x).far]) ∧ Ext w w' := by
  obtain ⟨h0, h1⟩ := hx
  have hm : x % 10001 = x % 10001 := rfl
  by_cases c1 : x % 10001 < 65
  · have e : dartO x = ⟨225, x % 10001⟩ := by unfold dartO; rw [if_pos c1]
    rw [e]
    clear e hm
    go_enter Try.func35, Try.ntmps35
    go_wp2
    exact bodyPost_ret (v := .agg #[.int .i64 225, .int .i64 (x % 10001)]) (by simp [results, Try.results35, go_sem]) rfl ⟨rfl, (Ext.refl w).alloc _⟩
  by_cases c2 : x % 10001 < 160
  · have e : dartO x = ⟨125, x % 10001⟩ := by unfold dartO; rw [if_neg c1, if_pos c2]
    rw [e]
    clear e hm
    go_enter Try.func35, Try.ntmps35
    go_wp2
    exact bodyPost_ret (v := .agg #[.int .i64 125, .int .i64 (x % 10001)]) (by simp [results, Try.results35, go_sem]) rfl ⟨rfl, (Ext.refl w).alloc _⟩
  by_cases c3 : 1700 < x % 10001
  · have e : dartO x = ⟨0, x % 10001⟩ := by unfold dartO; rw [if_neg c1, if_neg c2, if_pos c3]
    rw [e]
    clear e hm
    go_enter Try.func35, Try.ntmps35
    go_wp2
    exact bodyPost_ret (v := .agg #[.int .i64 0, .int .i64 (x % 10001)]) (by simp [results, Try.results35, go_sem]) rfl ⟨rfl, (Ext.refl w).alloc _⟩
  · have e : dartO x = ⟨101, x % 10001⟩ := by unfold dartO; rw [if_neg c1, if_neg c2, if_neg c3]
    rw [e]
    clear e hm
    go_enter Try.func35, Try.ntmps35
    go_wp2
    exact bodyPost_ret (v := .agg #[.int .i64 101, .int .i64 (x % 10001)]) (by simp [results, Try.results35, go_sem]) rfl ⟨rfl, (Ext.refl w).alloc _⟩
theorem bull_class (t : Toss) (ht : 0 ≤ t.far ∧ t.far ≤ 10000) (w : World) : Calls Try.prog 36 #[.agg #[.int .i64 t.bed, .int .i64 t.far]] w fun e w' => e = .returned (.int .i64 (clsO t)) ∧ Ext w w' := by
  obtain ⟨bed, far⟩ := t
  simp only at ht
  obtain ⟨h0, h1⟩ := ht
  cases c1 : bed == 225
  · cases c2 : bed == 125
    · cases c3 : bed == 0
      · have e : clsO ⟨bed, far⟩ = 2 + far := by unfold clsO; simp at c1 c2 c3; simp [c1, c2, c3]
        rw [e]
        clear e
        go_enter Try.func36, Try.ntmps36
        go_wp2
        go_ret
        exact ⟨rfl, (Ext.refl w).alloc _⟩
      · obtain rfl : bed = 0 := by simpa using c3
        go_enter Try.func36, Try.ntmps36
        go_wp2
        go_ret
        exact ⟨rfl, (Ext.refl w).alloc _⟩
    · obtain rfl : bed = 125 := by simpa using c2
      go_enter Try.func36, Try.ntmps36
      go_wp2
      go_ret
      exact ⟨rfl, (Ext.refl w).alloc _⟩
  · obtain rfl : bed = 225 := by simpa using c1
    go_enter Try.func36, Try.ntmps36
    go_wp2
    go_ret
    exact ⟨rfl, (Ext.refl w).alloc _⟩
set_option maxRecDepth 100000 in
set_option maxHeartbeats 4000000 in
theorem law_LegBull (xs ys : List Int) (a b : Option Addr) (c d : Nat) (w : World) (hX : CellsAt w .u16 a xs) (hY : CellsAt w .u16 b ys) (hxb : ∀ x ∈ xs, 0 ≤ x ∧ x ≤ 65535) (hyb : ∀ x ∈ ys, 0 ≤ x ∧ x ≤ 65535) (hxl : xs.length ≤ 9223372036854775807) (hyl : ys.length ≤ 9223372036854775807) :
    Calls Try.prog 12 #[.slice a xs.length c, .slice b ys.length d] w fun e w' => e = .returned (.bool true) ∧ Ext w w' := by
  have HX := Lib.hid hX
  have HY := Lib.hid hY
  have HXB := Lib.hid hxb
  have HYB := Lib.hid hyb
  clear hX hY hxb hyb
  by_cases h1 : xs.length < 1
  · go_enter Try.func12, Try.ntmps12
    go_wp2_with fail
    refine (law_known _).mono ?_
    rintro e w1 ⟨rfl, hx1⟩
    go_wp2
    go_ret
    exact ⟨rfl, hx1⟩
  by_cases h8 : 8 < xs.length
  · go_enter Try.func12, Try.ntmps12
    go_wp2_with fail
    refine (law_known _).mono ?_
    rintro e w1 ⟨rfl, hx1⟩
    go_wp2
    go_ret
    exact ⟨rfl, hx1⟩
  obtain ⟨l, hl⟩ : ∃ l, xs.map dartO = l := ⟨_, rfl⟩
  have hln : l.length = xs.length := by rw [← hl, List.length_map]
  have hlg : ∀ (k : Nat) x, xs[k]? = some x → l[k]? = some (dartO x) := fun k x h => by subst hl; simp [h]
  have hlf : ∀ o ∈ l, 0 ≤ o.far ∧ o.far ≤ 10000 := fun o ho => by subst hl; obtain ⟨x, _, rfl⟩ := List.mem_map.1 ho; exact dartO_far x
  have hli : ∀ o ∈ l, I64 o.bed := fun o ho => by subst hl; obtain ⟨x, _, rfl⟩ := List.mem_map.1 ho; exact dartO_i64 x
  have hlo : ∀ o ∈ l, o.ok = true := fun o ho => by subst hl; obtain ⟨x, _, rfl⟩ := List.mem_map.1 ho; exact dartO_ok x
  have HLN := Lib.hid hln
  have HLG := Lib.hid hlg
  have HLF := Lib.hid hlf
  have HLI := Lib.hid hli
  have HLO := Lib.hid hlo
  clear hl hln hlg hlf hli hlo
  generalize hn : xs.length = n at *
  have HN := Lib.hid hn
  clear hn
  obtain ⟨M, hM⟩ : ∃ M, ys.map dartO = M := ⟨_, rfl⟩
  have hmg : ∀ (k : Nat) x, ys[k]? = some x → M[k]? = some (dartO x) := fun k x h => by subst hM; simp [h]
  have hmi : ∀ o ∈ M, I64 o.bed := fun o ho => by subst hM; obtain ⟨x, _, rfl⟩ := List.mem_map.1 ho; exact dartO_i64 x
  have hmo : ∀ o ∈ M, o.ok = true := fun o ho => by subst hM; obtain ⟨x, _, rfl⟩ := List.mem_map.1 ho; exact dartO_ok x
  have hmn : M.length = ys.length := by subst hM; simp
  have HMG := Lib.hid hmg
  have HMI := Lib.hid hmi
  have HMO := Lib.hid hmo
  have HMN := Lib.hid hmn
  clear hM hmg hmi hmo hmn
  generalize hyn : ys.length = yn at *
  have HYN := Lib.hid hyn
  clear hyn
  go_enter Try.func12, Try.ntmps12
  go_wp2
  go_loopw [8, 10] (fun v i wr => ∃ k : Nat, k ≤ n ∧ i = .int .i64 k ∧ OwnT wr w.heap.size v (l.take k) ∧ OwnI wr w.heap.size (.slice (some ⟨w.heap.size + 1, 0, none⟩) 0 0) [] ∧ Ext w wr) (fun _ i _ => n - (intOf i).toNat)
  case atStart => exact ⟨0, Nat.zero_le _, rfl, own_chg (own_empty rfl (Nat.le_refl _)) ((((Ext.refl _).alloc _)).chg fun _ => False) (fun _ _ => id), own_empty (by simp) (by omega), ((Ext.refl w).alloc _).alloc _⟩
  case round =>
    obtain ⟨k, hk, rfl, hO, hI, hx⟩ := hrel
    have htl : (l.take k).length = k := by rw [List.length_take, HLN.out]; omega
    have HTL := Lib.hid htl
    obtain ⟨va, vc, rfl, -⟩ := hO.toss
    rw [htl]
    unfold OwnT at hO
    rw [htl] at hO
    have HO := Lib.hid hO
    have HI := Lib.hid hI
    have hsz := hx.size
    clear htl hO hI
    by_cases hlt : k < n
    · obtain ⟨xb, xo, rfl, x0⟩ := HX.out k (by rw [HN.out]; exact hlt)
      replace x0 := hx.cell x0
      have hxl := lt_of_cell x0
      simp only at hxl
      have hxB := HXB.out _ (List.getElem_mem (by rw [HN.out]; exact hlt : k < xs.length))
      have hg := HLG.out k _ (List.getElem?_eq_getElem (by rw [HN.out]; exact hlt : k < xs.length))
      have htk : l.take (k + 1) = l.take k ++ [dartO (xs[k]'(by rw [HN.out]; exact hlt))] := by rw [List.take_add_one, hg]; rfl
      have HTK := Lib.hid htk
      clear hg htk
      generalize xs[k]'(by rw [HN.out]; exact hlt) = x at *
      have hD := fun W => bull_dart x hxB W
      have HD := Lib.hid hD
      clear hD
      go_wp2_with fail
      refine (HD.out _).mono ?_
      rintro e w1 ⟨rfl, hx1⟩
      have hE1 := hx.trans hx1
      have HO1 := Lib.hid (own_chg HO.out (hx1.chg fun _ => False) (fun _ _ => id))
      have HI1 := Lib.hid (HI.out.ext hx1)
      have hsz1 := hE1.size
      clear HO HI x0
      generalize dartO x = t at *
      obtain ⟨bed, far⟩ := t
      simp only
      have hxa := (Ext.refl w1).alloc (.cells #[.int .i64 bed, .int .i64 far] 91)
      go_wp2_with (at_builtin; refine wp_append_vals rfl _ _ 63 91 _ 2 16 rfl info_toss (by kernel_rfl) rfl (by decide) w.heap.size _ k _ rfl (own_chg HO1.out (hxa.chg fun _ => False) (fun _ _ => id)) (some ⟨w1.heap.size, 0, none⟩) 1 1 [.int .i64 bed, .int .i64 far] rfl (fun h => by cases h) rfl (new_two w1 _ _ _) (fun u hu => by simp at hu; rcases hu with rfl | rfl <;> rfl) (by omega) (by omega) (by simp; omega) ?_)
      intro v' w4 ho4 hg4
      have hlt2 := own_lt HO1.out
      have hC4 := grown_chg hg4
      have hx4 : Ext w w4 := Chg.to_ext (hE1.trans hxa) hC4 (fun i e => (hlt2 i e).1)
      have hI4 : OwnI w4 w.heap.size (.slice (some ⟨w.heap.size + 1, 0, none⟩) 0 0) [] := (HI1.out.ext hxa).chg hC4 (fun i e e2 => own_ne (HI1.out : w1.ownsRow _ _ _ _ _ _) HO1.out (by decide) i e e2)
      have hO4 : OwnT w4 w.heap.size v' (l.take (k + 1)) := by
        unfold OwnT
        rw [HTK.out, List.length_append, HTL.out, List.flatMap_append]
        exact ho4
      have HO4 := Lib.hid hO4
      have HI4 := Lib.hid hI4
      clear ho4 hg4 hlt2 hC4 hO4 hI4 hxa HO1 HI1
      go_wp2
      go_roundw
      case rel => exact ⟨k + 1, by omega, by go_num, HO4.out, HI4.out, hx4⟩
      case measure => simp [intOf]; omega
    · obtain rfl : k = n := by omega
      have hT : OwnT wr w.heap.size (.slice va k vc) l := by
        have := HO.out
        rw [List.take_of_length_le (by rw [HLN.out]; omega)] at this
        unfold OwnT
        rw [HLN.out]
        exact this
      have HT := Lib.hid hT
      clear hT HO HTL
      obtain ⟨wA, rfl⟩ : ∃ x, x = wr := ⟨_, rfl⟩
      go_wp2
      go_loopw [9, 11] (fun v i wr2 => ∃ j : Nat, j ≤ k ∧ i = .int .i64 j ∧ OwnI wr2 w.heap.size v (bestW (leastT l) (upto j) (l.take j)) ∧ OwnT wr2 w.heap.size (.slice va k vc) l ∧ Ext w wr2) (fun _ i _ => k - (intOf i).toNat)
      case atStart => exact ⟨0, Nat.zero_le _, rfl, HI.out, HT.out, hx⟩
      case round =>
        obtain ⟨j, hj, rfl, hB, hT2, hx2⟩ := hrel
        obtain ⟨wB, rfl⟩ : ∃ x, x = wr := ⟨_, rfl⟩
        have HT2 := Lib.hid hT2
        obtain ⟨va', vc', hsh, hta⟩ := hT2.toss
        obtain ⟨rfl, rfl⟩ : va = va' ∧ vc = vc' := by injection hsh with a1 _ a3; exact ⟨a1, a3⟩
        have HTA := Lib.hid hta
        obtain ⟨ba, bc, rfl, -⟩ := hB.cells
        have HBI := Lib.hid hB
        clear hT2 hB hsh hta HT HI
        by_cases hlt2 : j < k
        · have hjl : j < l.length := by rw [HLN.out]; exact hlt2
          have hnx := bestW_next hjl
          have hbl : (bestW (leastT l) (upto j) (l.take j)).length ≤ j := by have := bestW_length (leastT l) (upto j) (l.take j); rw [upto_length] at this; exact this
          generalize bestW (leastT l) (upto j) (l.take j) = bs at *
          have HNX := Lib.hid hnx
          clear hnx
          obtain ⟨tb, tof, rfl, p0, p1⟩ := HTA.out j hjl
          have hf1 := HLF.out _ (List.getElem_mem hjl)
          obtain ⟨t1, ht1⟩ : ∃ t1, l[j] = t1 := ⟨_, rfl⟩
          rw [ht1] at p0 p1 hf1 HNX
          clear ht1
          have hC1 := fun W => bull_class t1 hf1 W
          have HC1 := Lib.hid hC1
          have htl := lt_of_cell p0
          simp only at htl
          clear hC1
          go_wp2
          go_loopw [12, 13] (fun mv jv wr3 => ∃ q : Nat, q ≤ k ∧ jv = .int .i64 q ∧ mv = .bool (mostB t1 (l.take q)) ∧ Ext wB wr3) (fun _ jv _ => k - (intOf jv).toNat)
          case atStart => exact ⟨0, Nat.zero_le _, rfl, rfl, Ext.refl _⟩
          case round =>
            obtain ⟨q, hq, rfl, rfl, hx3⟩ := hrel
            replace p0 := hx3.cell p0
            replace p1 := hx3.cell p1
            have hsz3 := hx3.size
            by_cases hlt3 : q < k
            · have hql : q < l.length := by rw [HLN.out]; exact hlt3
              obtain ⟨tb', tof', e, r0, r1⟩ := HTA.out q hql
              cases e
              replace r0 := hx3.cell r0
              replace r1 := hx3.cell r1
              have hf2 := HLF.out _ (List.getElem_mem hql)
              have hsn : mostB t1 (l.take (q + 1)) = (mostB t1 (l.take q) && decide (clsO t1 ≤ clsO l[q])) := by rw [List.take_succ_eq_append_getElem hql, mostB_snoc]
              have HSN := Lib.hid hsn
              clear hsn
              generalize l[q] = t2 at *
              have HC2 := Lib.hid (fun W => bull_class t2 hf2 W)
              obtain ⟨bed1, far1⟩ := t1
              obtain ⟨bed2, far2⟩ := t2
              simp only at *
              have htl3 := lt_of_cell p0
              simp only at htl3
              cases hmm : mostB ⟨bed1, far1⟩ (l.take q)
              · rw [hmm] at HSN
                go_wp2
                go_quiet (fail)
                go_wp2
                go_roundw
                case rel => exact ⟨q + 1, by omega, by go_num, by rw [HSN.out]; rfl, (by exact hx3.drewN _)⟩
                case measure => simp [intOf]; omega
              · rw [hmm] at HSN
                go_wp2
                refine wp_region_later (by kernel_rfl) (by kernel_rfl) ?_
                repeat (go_big_quiet_step (first | with_reducible refine Calls.later (HC1.out _) | with_reducible refine Calls.later (HC2.out _)))
                refine wpQuiet_nil ?_
                intro w3 hw3
                obtain ⟨⟨w3, hx4⟩, rfl⟩ := hw3
                have hE4 := hx3.trans hx4
                clear p0 p1 r0 r1 hx4
                go_wp2
                go_roundw
                case rel => exact ⟨q + 1, by omega, by go_num, by rw [HSN.out]; rfl, hE4⟩
                case measure => simp [intOf]; omega
            · obtain rfl : q = k := by omega
              have hall : l.take q = l := List.take_of_length_le (by rw [HLN.out]; omega)
              rw [hall]
              have HBI3 := Lib.hid (HBI.out.ext hx3)
              have HT3 := Lib.hid (HT2.out.ext hx3)
              have hE3 := hx2.trans hx3
              clear hall HBI HT2 HTA hx3 hx2 p0 p1
              cases hmm : mostB t1 l
              · have hnx := HNX.out
                rw [hmm] at hnx
                have HNX2 := Lib.hid hnx
                clear hnx HNX
                go_wp2
                go_roundw
                case rel => exact ⟨j + 1, by omega, by go_num, by rw [HNX2.out]; simpa using HBI3.out, HT3.out, hE3⟩
                case measure => simp [intOf]; omega
              · have hnx := HNX.out
                rw [hmm] at hnx
                have HNX2 := Lib.hid hnx
                have hszE := hE3.size
                clear hnx HNX
                go_wp2_with (at_builtin; refine wp_append_i rfl _ _ rfl w.heap.size _ bs rfl (HBI3.out.ext ((Ext.refl wr).alloc _)) ⟨wr.heap.size, 0, none⟩ 1 j rfl (by simp [go_sem]) (by omega) (by simp; omega) ?_)
                intro v' w5 hO5 hg5
                have hC5 := grown_chg hg5
                have hxa := (Ext.refl wr).alloc (.cells #[.int .i64 j] 3)
                have hlt5 := own_lt (HBI3.out : wr.ownsRow _ _ _ _ _ _)
                have hE5 : Ext w w5 := Chg.to_ext (hE3.trans hxa) hC5 (fun i e => (hlt5 i e).1)
                have hT5 : OwnT w5 w.heap.size (.slice (some ⟨tb, tof, none⟩) q vc) l := own_chg (HT3.out.ext hxa) hC5 (fun i e e2 => own_ne (HT3.out : wr.ownsRow _ _ _ _ _ _) (HBI3.out : wr.ownsRow _ _ _ _ _ _) (by decide) i e e2)
                have HO5 := Lib.hid hO5
                have HT5 := Lib.hid hT5
                clear hO5 hg5 hC5 hlt5 hT5 HBI3 HT3 hxa
                go_wp2
                go_roundw
                case rel => exact ⟨j + 1, by omega, by go_num, by rw [HNX2.out]; simpa using HO5.out, HT5.out, hE5⟩
                case measure => simp [intOf]; omega
        · obtain rfl : j = k := by omega
          have hball : bestW (leastT l) (upto j) (l.take j) = bstO l := by have := bestW_all l; rw [HLN.out] at this; exact this
          have hbp : 0 < (bstO l).length := bstO_pos (by rw [HLN.out]; omega)
          have hbl : (bstO l).length ≤ j := by have := bstO_le l; rw [HLN.out] at this; exact this
          have hbm : ∀ p ∈ bstO l, 0 ≤ p ∧ p < j := fun p hp => by have := bstO_mem hp; rw [HLN.out] at this; exact this
          rw [hball] at HBI
          rw [hball]
          obtain ⟨B, hB⟩ : ∃ B, bstO l = B := ⟨_, rfl⟩
          rw [hB] at HBI hbp hbl hbm
          rw [hB]
          have HB := Lib.hid hB
          have HBM := Lib.hid hbm
          clear hball hB hbm
          have hszB := hx2.size
          go_wp2_with (at_builtin; refine wp_append_vals rfl _ _ 63 91 _ 2 16 rfl info_toss (by kernel_rfl) rfl (by decide) w.heap.size _ 0 [] rfl (own_empty rfl hszB) va j vc (l.flatMap Toss.cells) rfl (own_nilcap (by have := HT2.out; unfold OwnT at this; rw [HLN.out] at this; exact this)) (by rw [toss_length, HLN.out]) (TossAt.vals (HTA.out.ext ((Ext.refl wB).alloc _))) (toss_one l) (by omega) (by omega) (by simp; omega) ?_)
          intro v1 w1 ho1 hg1
          have ho1' : OwnT w1 w.heap.size v1 l := by unfold OwnT; rw [HLN.out]; simpa using ho1
          have hx1 : Ext wB w1 := Chg.to_ext ((Ext.refl wB).alloc _) (grown_chg hg1) (fun i e => by cases e; simp)
          obtain ⟨ia, ic, rfl, hta1⟩ := ho1'.toss
          rw [HLN.out]
          have hE1 := hx2.trans hx1
          have HTA1 := Lib.hid hta1
          have HTW := Lib.hid (HTA.out.ext hx1)
          have HBW := Lib.hid (HBI.out.ext hx1)
          have HRW := Lib.hid (HT2.out.ext hx1)
          clear ho1 hg1 ho1' hx1 hta1 HTA HBI HT2
          have hR1 : RoundsAt (w1.alloc (.cells #[.slice ia j ic] 63)) (some ⟨w1.heap.size, 0, none⟩) [l] := RoundsAt.mk1 (a := ia) (n := j) (c := ic) (by simp [go_sem]) HLN.out (HTA1.out.ext ((Ext.refl w1).alloc _))
          by_cases hj1 : j = 1
          · subst hj1
            have hO := leg_Off' 1 [l] 1 rfl (some ⟨w1.heap.size, 0, none⟩) 1 _ hR1 (by simp) (fun r hr x hx => by rw [List.mem_singleton] at hr; subst hr; exact HLI.out x hx) 0 33 (by have := offS_one HLN.out; rw [HLN.out] at this; exact this)
            have HO := Lib.hid hO
            clear hO hR1
            go_wp2_with fail
            refine HO.out.mono ?_
            rintro e w2 ⟨rfl, hx3⟩
            have hE2 := hE1.trans (Ext.trans ((Ext.refl w1).alloc _) hx3)
            clear HO hx3
            go_wp2_with fail
            refine (leg_Off' 1 [] 0 rfl none 0 _ (fun i hi => absurd hi (by simp)) (by simp) (fun r hr => by cases hr) 0 0 offS_none).mono ?_
            rintro e w3 ⟨rfl, hx4⟩
            go_wp2_with fail
            refine (law_known _).mono ?_
            rintro e w4 ⟨rfl, hx5⟩
            go_wp2
            go_ret
            exact ⟨rfl, (hE2.trans hx4).trans hx5⟩
          have hj1' : ((j : Int) == 1) = false := by simp; omega
          have hF := offS_first (l := l) (by rw [HLN.out]; omega) (by rw [HLN.out]; omega) HLO.out
          rw [HLN.out, HB.out] at hF
          by_cases hb1 : B.length = 1
          · obtain ⟨p, rfl⟩ := List.length_eq_one_iff.1 hb1
            rw [if_neg (by simp)] at hF
            have hO := leg_Off' j [l] 1 rfl (some ⟨w1.heap.size, 0, none⟩) 1 _ hR1 (by simp) (fun r hr x hx => by rw [List.mem_singleton] at hr; subst hr; exact HLI.out x hx) p 0 hF
            have HO := Lib.hid hO
            clear hO hR1 hF
            go_wp2_with fail
            refine HO.out.mono ?_
            rintro e w2 ⟨rfl, hx3⟩
            have hxx := Ext.trans ((Ext.refl w1).alloc _) hx3
            have hE2 := hE1.trans hxx
            obtain ⟨ba', bc', hsh, hca⟩ := (HBW.out.ext hxx).cells
            obtain ⟨rfl, rfl⟩ : ba = ba' ∧ bc = bc' := by injection hsh with a1 _ a3; exact ⟨a1, a3⟩
            obtain ⟨bb, bo, rfl, q0⟩ := hca 0 (by simp)
            simp only [Nat.add_zero, List.getElem_cons_zero] at q0
            clear HO hx3 hxx hsh hca
            go_wp2_with fail
            refine (law_known _).mono ?_
            rintro e w4 ⟨rfl, hx5⟩
            go_wp2
            go_ret
            exact ⟨rfl, hE2.trans hx5⟩
          have hb1' : ((B.length : Int) == 1) = false := by simp; omega
          rw [if_pos (by omega)] at hF
          have hO := leg_Off' j [l] 1 rfl (some ⟨w1.heap.size, 0, none⟩) 1 _ hR1 (by simp) (fun r hr x hx => by rw [List.mem_singleton] at hr; subst hr; exact HLI.out x hx) 0 31 hF
          have HO := Lib.hid hO
          clear hO hR1 hF
          go_wp2_with fail
          refine HO.out.mono ?_
          rintro e w2 ⟨rfl, hx3⟩
          have hxx := Ext.trans ((Ext.refl w1).alloc _) hx3
          have hE2 := hE1.trans hxx
          have HTW2 := Lib.hid (HTW.out.ext hxx)
          have HBW2 := Lib.hid (HBW.out.ext hxx)
          have HRW2 := Lib.hid (HRW.out.ext hxx)
          clear HO hx3 hxx HTW HBW HRW HTA1 HRW2
          have hs2 := hE2.size
          go_wp2
          go_loopw [18, 19] (fun v i wr => ∃ q : Nat, q ≤ B.length ∧ q ≤ yn ∧ i = .int .i64 q ∧ OwnT wr w2.heap.size v (M.take q) ∧ Ext w2 wr) (fun _ i _ => B.length - (intOf i).toNat)
          case atStart => exact ⟨0, Nat.zero_le _, Nat.zero_le _, rfl, own_empty rfl (Nat.le_refl _), (Ext.refl w2).alloc _⟩
          case round =>
            obtain ⟨q, hq, hqy, rfl, hO, hx⟩ := hrel
            have htl2 : (M.take q).length = q := by rw [List.length_take, HMN.out]; omega
            have HTL := Lib.hid htl2
            obtain ⟨ga, gc, rfl, -⟩ := hO.toss
            rw [htl2]
            unfold OwnT at hO
            rw [htl2] at hO
            have HO := Lib.hid hO
            have hsz := hx.size
            clear htl2 hO
            by_cases hlt : q < B.length ∧ q < yn
            · obtain ⟨hltb, hlty⟩ := hlt
              obtain ⟨yb, yo, rfl, y0⟩ := HY.out q (by rw [HYN.out]; exact hlty)
              replace y0 := (hE2.trans hx).cell y0
              have hyl0 := lt_of_cell y0
              simp only at hyl0
              have hyB := HYB.out _ (List.getElem_mem (by rw [HYN.out]; exact hlty : q < ys.length))
              have hg := HMG.out q _ (List.getElem?_eq_getElem (by rw [HYN.out]; exact hlty : q < ys.length))
              have htk : M.take (q + 1) = M.take q ++ [dartO (ys[q]'(by rw [HYN.out]; exact hlty))] := by rw [List.take_add_one, hg]; rfl
              have HTK := Lib.hid htk
              clear hg htk
              generalize ys[q]'(by rw [HYN.out]; exact hlty) = x at *
              have HD := Lib.hid (fun W => bull_dart x hyB W)
              go_wp2_with fail
              refine (HD.out _).mono ?_
              rintro e w3 ⟨rfl, hx3⟩
              have hE3 := hx.trans hx3
              have HO1 := Lib.hid (own_chg HO.out (hx3.chg fun _ => False) (fun _ _ => id))
              have hsz1 := hE3.size
              clear HO y0
              generalize dartO x = t at *
              obtain ⟨bed, far⟩ := t
              simp only
              have hxa := (Ext.refl w3).alloc (.cells #[.int .i64 bed, .int .i64 far] 91)
              go_wp2_with (at_builtin; refine wp_append_vals rfl _ _ 63 91 _ 2 16 rfl info_toss (by kernel_rfl) rfl (by decide) w2.heap.size _ q _ rfl (own_chg HO1.out (hxa.chg fun _ => False) (fun _ _ => id)) (some ⟨w3.heap.size, 0, none⟩) 1 1 [.int .i64 bed, .int .i64 far] rfl (fun h => by cases h) rfl (new_two w3 _ _ _) (fun u hu => by simp at hu; rcases hu with rfl | rfl <;> rfl) (by omega) (by omega) (by simp; omega) ?_)
              intro v' w4 ho4 hg4
              have hlt4 := own_lt HO1.out
              have hC4 := grown_chg hg4
              have hx4 : Ext w2 w4 := Chg.to_ext (hE3.trans hxa) hC4 (fun i e => (hlt4 i e).1)
              have hO4 : OwnT w4 w2.heap.size v' (M.take (q + 1)) := by
                unfold OwnT
                rw [HTK.out, List.length_append, HTL.out, List.flatMap_append]
                exact ho4
              have HO4 := Lib.hid hO4
              clear ho4 hg4 hlt4 hC4 hO4 hxa HO1
              go_wp2
              go_roundw
              case rel => exact ⟨q + 1, by omega, by omega, by go_num, HO4.out, hx4⟩
              case measure => simp [intOf]; omega
            · have HE := Lib.hid (hE2.trans hx)
              have HTW3 := Lib.hid (HTW2.out.ext hx)
              have HBW3 := Lib.hid (HBW2.out.ext hx)
              have hqq : ¬ (q < B.length) ∨ ¬ (q < yn) := by omega
              have hgate : (decide (q < B.length) && decide (q < yn)) = false := by simp; omega
              obtain ⟨A, hA⟩ : ∃ A, M.take q = A := ⟨_, rfl⟩
              have hAl : A.length = q := by rw [← hA]; exact HTL.out
              have hAi : ∀ o ∈ A, I64 o.bed := fun o ho => HMI.out o (by rw [← hA] at ho; exact List.mem_of_mem_take ho)
              have hAo : ∀ o ∈ A, o.ok = true := fun o ho => HMO.out o (by rw [← hA] at ho; exact List.mem_of_mem_take ho)
              have hOA : OwnT wr w2.heap.size (.slice ga q gc) A := by unfold OwnT; rw [hAl, ← hA]; exact HO.out
              have HAL := Lib.hid hAl
              have HAI := Lib.hid hAi
              have HAO := Lib.hid hAo
              have HOA := Lib.hid hOA
              obtain ⟨ga', gc', hsh, hga⟩ := hOA.toss
              obtain ⟨rfl, rfl⟩ : ga = ga' ∧ gc = gc' := by injection hsh with a1 _ a3; exact ⟨a1, a3⟩
              have HGA := Lib.hid hga
              clear hA hAl hAi hAo hOA HO hsh hga HTL HTW2 HBW2
              by_cases hqb : q < B.length
              · have hqy : ¬ q < yn := by omega
                have hszr := HE.out.size
                have hxr := (Ext.refl wr).alloc (.cells #[] 91)
                go_wp2_with (at_builtin; refine wp_append_vals rfl _ _ 63 91 _ 2 16 rfl info_toss (by kernel_rfl) rfl (by decide) wr.heap.size _ 0 [] rfl (own_empty rfl (Nat.le_refl _)) ga q gc (A.flatMap Toss.cells) rfl (own_nilcap (by have := HOA.out; unfold OwnT at this; rw [HAL.out] at this; exact this)) (by rw [toss_length, HAL.out]) (TossAt.vals (HGA.out.ext hxr)) (toss_one A) (by omega) (by omega) (by simp) ?_)
                intro v5 w5 ho5 hg5
                have hO5 : OwnT w5 wr.heap.size v5 A := by unfold OwnT; rw [HAL.out]; simpa using ho5
                have hx5 : Ext wr w5 := Chg.to_ext hxr (grown_chg hg5) (fun i e => by cases e; simp)
                obtain ⟨ea, ec, rfl, hta5⟩ := hO5.toss
                rw [HAL.out]
                have hE5 := HE.out.trans hx5
                have hxb := (Ext.refl w5).alloc (.cells #[.slice va j vc, .slice ea q ec] 63)
                have hR5 : RoundsAt (w5.alloc (.cells #[.slice va j vc, .slice ea q ec] 63)) (some ⟨w5.heap.size, 0, none⟩) [l, A] := RoundsAt.mk2 (a := va) (n := j) (c := vc) (a' := ea) (n' := q) (c' := ec) (by simp [go_sem]) (by simp [go_sem]) HLN.out HAL.out ((HTW3.out.ext hx5).ext hxb) (hta5.ext hxb)
                have HB5 := Lib.hid ((HBW3.out.ext hx5).ext hxb)
                have HG5 := Lib.hid ((HGA.out.ext hx5).ext hxb)
                have hEb := hE5.trans hxb
                have hO := fun x y h => leg_Off' j [l, A] 2 rfl (some ⟨w5.heap.size, 0, none⟩) 2 _ hR5 (by simp) (fun r hr x hx => by simp at hr; rcases hr with rfl | rfl; exact HLI.out x hx; exact HAI.out x hx) x y h
                have hO' := hO 0 4 (by have := offS_form (l := l) (m := A) (by rw [HLN.out]; omega) (by rw [HLN.out]; omega) HLO.out (by rw [HB.out]; omega) (by rw [HB.out, HAL.out]; exact hqb); rw [HLN.out] at this; exact this)
                have HO := Lib.hid hO'
                clear hO hO' hR5 ho5 hg5 hO5 hx5 hta5 hxb HGA HOA HTW3 HBW3 hxr
                go_wp2_with fail
                refine HO.out.mono ?_
                rintro e w6 ⟨rfl, hx6⟩
                go_wp2_with fail
                refine (law_known _).mono ?_
                rintro e w7 ⟨rfl, hx7⟩
                go_wp2
                go_ret
                exact ⟨rfl, (hEb.trans hx6).trans hx7⟩
              · have hqe : q = B.length := by omega
                have HQ := Lib.hid hqe
                clear hqe
                have hszr := HE.out.size
                have hxr := (Ext.refl wr).alloc (.cells #[] 91)
                go_wp2_with (at_builtin; refine wp_append_vals rfl _ _ 63 91 _ 2 16 rfl info_toss (by kernel_rfl) rfl (by decide) wr.heap.size _ 0 [] rfl (own_empty rfl (Nat.le_refl _)) ga q gc (A.flatMap Toss.cells) rfl (own_nilcap (by have := HOA.out; unfold OwnT at this; rw [HAL.out] at this; exact this)) (by rw [toss_length, HAL.out]) (TossAt.vals (HGA.out.ext hxr)) (toss_one A) (by omega) (by omega) (by simp) ?_)
                intro v5 w5 ho5 hg5
                have hO5 : OwnT w5 wr.heap.size v5 A := by unfold OwnT; rw [HAL.out]; simpa using ho5
                have hx5 : Ext wr w5 := Chg.to_ext hxr (grown_chg hg5) (fun i e => by cases e; simp)
                obtain ⟨ea, ec, rfl, hta5⟩ := hO5.toss
                rw [HAL.out]
                have hE5 := HE.out.trans hx5
                have hxb := (Ext.refl w5).alloc (.cells #[.slice va j vc, .slice ea q ec] 63)
                have hR5 : RoundsAt (w5.alloc (.cells #[.slice va j vc, .slice ea q ec] 63)) (some ⟨w5.heap.size, 0, none⟩) [l, A] := RoundsAt.mk2 (a := va) (n := j) (c := vc) (a' := ea) (n' := q) (c' := ec) (by simp [go_sem]) (by simp [go_sem]) HLN.out HAL.out ((HTW3.out.ext hx5).ext hxb) (hta5.ext hxb)
                have HB5 := Lib.hid ((HBW3.out.ext hx5).ext hxb)
                have HG5 := Lib.hid ((HGA.out.ext hx5).ext hxb)
                have hEb := hE5.trans hxb
                have hO := fun x y h => leg_Off' j [l, A] 2 rfl (some ⟨w5.heap.size, 0, none⟩) 2 _ hR5 (by simp) (fun r hr x hx => by simp at hr; rcases hr with rfl | rfl; exact HLI.out x hx; exact HAI.out x hx) x y h
                have hA2 : 1 < A.length := by rw [HAL.out]; omega
                have hmA : ∀ p ∈ bstO A, 0 ≤ p ∧ p < q := fun p hp => by have := bstO_mem hp; rw [HAL.out] at this; exact this
                have hT2 := offS_second (l := l) (m := A) (by rw [HLN.out]; omega) (by rw [HLN.out]; omega) HLO.out HAO.out (by rw [HB.out]; omega) (by rw [HB.out, HAL.out]; exact HQ.out)
                have hT3 := offS_first (l := A) (by omega) (by rw [HAL.out]; omega) HAO.out
                rw [HLN.out, HB.out] at hT2
                rw [HAL.out] at hT3
                have hAp := bstO_pos (l := A) (by omega)
                obtain ⟨C, hC⟩ : ∃ C, bstO A = C := ⟨_, rfl⟩
                rw [hC] at hT2 hT3 hAp hmA
                clear hC
                by_cases hc1 : 1 < C.length
                · rw [if_pos hc1] at hT2 hT3
                  have HO := Lib.hid (hO 0 31 hT2)
                  have HT3 := Lib.hid hT3
                  clear hO hT2 hT3 hR5 ho5 hg5 hO5 hx5 hta5 hxb HGA HOA HTW3 HBW3 hxr hmA
                  go_wp2_with fail
                  refine HO.out.mono ?_
                  rintro e w6 ⟨rfl, hx6⟩
                  have hE6 := hEb.trans hx6
                  have hxc := (Ext.refl w6).alloc (.cells #[.slice ga q gc] 63)
                  have hR6 : RoundsAt (w6.alloc (.cells #[.slice ga q gc] 63)) (some ⟨w6.heap.size, 0, none⟩) [A] := RoundsAt.mk1 (a := ga) (n := q) (c := gc) (by simp [go_sem]) HAL.out ((HG5.out.ext hx6).ext hxc)
                  have hO3 := leg_Off' B.length [A] 1 rfl (some ⟨w6.heap.size, 0, none⟩) 1 _ hR6 (by simp) (fun r hr x hx => by rw [List.mem_singleton] at hr; subst hr; exact HAI.out x hx) 0 31 (by have := HT3.out; rw [HQ.out] at this; exact this)
                  have HO3 := Lib.hid hO3
                  have HB6 := Lib.hid ((HB5.out.ext hx6).ext hxc)
                  have hE6' := hE6.trans hxc
                  clear hO3 hR6 HO HB5 HG5 HT3 hx6 hxc hE6
                  go_wp2_with fail
                  refine HO3.out.mono ?_
                  rintro e w7 ⟨rfl, hx7⟩
                  have hE7 := hE6'.trans hx7
                  have hBne : ¬ B = [] := by rintro rfl; simp at hbp
                  go_wp2_with fail
                  refine (law_known _).mono ?_
                  rintro e w8 ⟨rfl, hx8⟩
                  go_wp2
                  go_ret
                  exact ⟨rfl, hE7.trans hx8⟩
                · rw [if_neg hc1] at hT2 hT3
                  obtain ⟨p, rfl⟩ := List.length_eq_one_iff.1 (by omega : C.length = 1)
                  simp only [List.headD_cons] at hT2 hT3
                  obtain ⟨hpm0, hpm1⟩ := hmA p (List.mem_cons_self ..)
                  obtain ⟨pn, rfl⟩ : ∃ pn : Nat, p = pn := ⟨p.toNat, by omega⟩
                  have hpB : pn < B.length := by omega
                  rw [Int.toNat_natCast, show B.getD pn 0 = B[pn] by simp [hpB]] at hT2
                  have HO := Lib.hid (hO _ 0 hT2)
                  have HT3 := Lib.hid hT3
                  clear hO hT2 hT3 hR5 ho5 hg5 hO5 hx5 hta5 hxb HGA HOA HTW3 HBW3 hxr hmA
                  go_wp2_with fail
                  refine HO.out.mono ?_
                  rintro e w6 ⟨rfl, hx6⟩
                  have hE6 := hEb.trans hx6
                  have hxc := (Ext.refl w6).alloc (.cells #[.slice ga q gc] 63)
                  have hR6 : RoundsAt (w6.alloc (.cells #[.slice ga q gc] 63)) (some ⟨w6.heap.size, 0, none⟩) [A] := RoundsAt.mk1 (a := ga) (n := q) (c := gc) (by simp [go_sem]) HAL.out ((HG5.out.ext hx6).ext hxc)
                  have hO3 := leg_Off' B.length [A] 1 rfl (some ⟨w6.heap.size, 0, none⟩) 1 _ hR6 (by simp) (fun r hr x hx => by rw [List.mem_singleton] at hr; subst hr; exact HAI.out x hx) pn 0 (by have := HT3.out; rw [HQ.out] at this; exact this)
                  have HO3 := Lib.hid hO3
                  have HB6 := Lib.hid ((HB5.out.ext hx6).ext hxc)
                  have hE6' := hE6.trans hxc
                  clear hO3 hR6 HO HB5 HG5 HT3 hx6 hxc hE6
                  go_wp2_with fail
                  refine HO3.out.mono ?_
                  rintro e w7 ⟨rfl, hx7⟩
                  have hE7 := hE6'.trans hx7
                  obtain ⟨ba', bc', hsh, hca⟩ := (HB6.out.ext hx7).cells
                  obtain ⟨rfl, rfl⟩ : ba = ba' ∧ bc = bc' := by injection hsh with a1 _ a3; exact ⟨a1, a3⟩
                  obtain ⟨bb, bo, rfl, q0⟩ := hca pn hpB
                  have hql := lt_of_cell q0
                  simp only at hql
                  generalize B[pn] = who at *
                  clear HO3 hx7 hsh hca HB6 hE6'
                  go_wp2_with fail
                  refine (law_known _).mono ?_
                  rintro e w8 ⟨rfl, hx8⟩
                  go_wp2
                  go_ret
                  exact ⟨rfl, hE7.trans hx8⟩
end Go.Proofs.Ytocnglplhnhllaa
