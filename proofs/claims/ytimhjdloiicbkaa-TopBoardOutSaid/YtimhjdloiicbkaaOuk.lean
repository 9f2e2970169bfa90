/-
  Package out: Bogeys.
-/
import Derived.Test.YtimhjdloiicbkaaOuj
namespace Go.Proofs.Ytimhjdloiicbkaa
open Go.RowKit Go.BigFrame
attribute [local go_sem] Oper.semAt_some Later.cell Later.frozen Lat.cell Lat.frozen NoX
set_option maxHeartbeats 1000000 in
theorem out_checkMost (beds : List Int) (la : Option Addr) (lc : Nat) (g : Int) (darts most : Nat) (w : World) (hc : CellsAt w .i64 la beds) (hr : rulO beds g darts = true) (hm : most ≤ 1001) :
    Calls Try.prog 19 #[.agg #[.slice la beds.length lc, .int .i64 g, .int .i64 darts], .int .i64 most] w fun e w' => e = .returned (.int .i64 0) ∧ Ext w w' := by
  have hv := rul_wrt hr
  have HCK := Lib.hid (fun W (hx : Ext w W) => out_Check beds g darts la lc W (hc.ext hx) (by have := hv.1; omega) (fun x hx => (hv.2 x hx).1))
  rw [rulE_ok hr] at HCK
  clear hv hr hc
  go_enter Try.func19, Try.ntmps19
  go_wp2_with fail
  refine (HCK.out _ ((Ext.refl w).alloc _)).mono ?_
  rintro e w2 ⟨rfl, hx2⟩
  have HX2 := Lib.hid (((Ext.refl w).alloc (.cells #[.slice la beds.length lc, .int .i64 g, .int .i64 darts] 40)).trans hx2)
  clear hx2 HCK
  go_wp2_with fail
  refine (out_within_1 _ _ _ _ _ (by simp)).mono ?_
  rintro e w3 ⟨rfl, hx3⟩
  have hin : ins 0 1001 [(most : Int)] = true := insO_one.2 (by omega)
  rw [hin]
  go_wp2
  go_ret
  exact ⟨rfl, HX2.out.trans hx3⟩
/-- The scores up to one that cannot be ended. -/
def bogO (rows : List (List Int)) (k : Nat) : List Int := ((List.range k).filter fun s => totO rows (s + 1) == 0).map fun (s : Nat) => ((s : Int) + 1)
theorem bogO_succ (rows : List (List Int)) (k : Nat) : bogO rows (k + 1) = bogO rows k ++ (if totO rows (k + 1) = 0 then [(k : Int) + 1] else []) := by
  unfold bogO
  rw [List.range_succ, List.filter_append, List.map_append, List.filter_cons]
  by_cases h : totO rows (k + 1) = 0
  · simp [h]
  · simp [h]
theorem bogO_len (rows : List (List Int)) (k : Nat) : (bogO rows k).length ≤ k := by
  unfold bogO
  rw [List.length_map]
  exact Nat.le_trans (List.length_filter_le _ _) (by simp)
set_option maxRecDepth 100000 in
set_option maxHeartbeats 8000000 in
theorem out_Bogeys (beds : List Int) (la : Option Addr) (lc : Nat) (g : Int) (darts most : Nat) (w : World) (hc : CellsAt w .i64 la beds) (hr : rulO beds g darts = true) (hm : most ≤ 1001) :
    Calls Try.prog 8 #[.agg #[.slice la beds.length lc, .int .i64 g, .int .i64 darts], .int .i64 most] w fun e w' => ∃ v, e = .returned (.tuple #[v, .int .i64 0]) ∧ OwnI w' w.heap.size v (bogO (rwsO g beds most darts) most) ∧ Ext w w' := by
  have hp := (rul_parts hr).2.2.2
  have hv := rul_wrt hr
  have HCM := Lib.hid (fun W (hx : Ext w W) => out_checkMost beds la lc g darts most W (hc.ext hx) hr hm)
  have HNB := Lib.hid (fun W (hx : Ext w W) => out_newBoard beds la lc g darts most W (hc.ext hx) hv.1 hv.2 (by omega) (by omega))
  clear hr hc hv
  go_enter Try.func8, Try.ntmps8
  go_wp2_with fail
  refine (HCM.out _ ((Ext.refl w).alloc _)).mono ?_
  rintro e w2 ⟨rfl, hx2⟩
  have HX2 := Lib.hid (((Ext.refl w).alloc (.cells #[.slice la beds.length lc, .int .i64 g, .int .i64 darts] 40)).trans hx2)
  have HU := Lib.hid ((Blk.new w #[.slice la beds.length lc, .int .i64 g, .int .i64 darts] 40).ext hx2)
  have u0 := HU.out.cell 0 (v := .slice la beds.length lc) rfl
  have u1 := HU.out.cell 1 (v := .int .i64 g) rfl
  have u2 := HU.out.cell 2 (v := .int .i64 darts) rfl
  have ul := HU.out.lt
  clear hx2 HCM
  go_wp2_with fail
  refine (HNB.out _ HX2.out).mono ?_
  rintro e w3 ⟨kb, ba, bc, cv, rfl, h1, h2, h3, h4, hx3⟩
  have HBR : Hid (BrdO w3 w2.heap.size kb beds g most darts) := Lib.hid ⟨ba, bc, cv, h1, h2, h3, h4⟩
  have HX3 := Lib.hid (HX2.out.trans hx3)
  clear h1 h2 h3 h4 hx3 u0 u1 u2 ul HNB
  obtain ⟨rows, hrows⟩ : ∃ y, rwsO g beds most darts = y := ⟨_, rfl⟩
  have HRE := Lib.hid hrows
  clear hrows
  go_wp2
  go_loopw [4, 24] (fun l i wr => ∃ (k : Nat) (lv : Value), k ≤ most ∧ lv = l ∧ i = .int .i64 k ∧ OwnI wr w3.heap.size lv (bogO rows k) ∧ Ext w3 wr) (fun _ i _ => most - (intOf i).toNat)
  case atStart => exact ⟨0, _, Nat.zero_le _, rfl, rfl, OwnI.nil _ _, Ext.refl _⟩
  case round =>
    obtain ⟨k, lv, hk, rfl, rfl, hO, hx⟩ := hrel
    obtain ⟨w4, rfl⟩ : ∃ y, y = wr := ⟨_, rfl⟩
    have HO := Lib.hid hO
    have HX := Lib.hid hx
    clear hO hx
    by_cases hlt : k < most
    · have hlt' : (k : Int) < (most : Int) := by omega
      have ht := out_totalB (HBR.out.ext HX.out) (k + 1) (by omega) (by omega) (by omega)
      rw [HRE.out] at ht
      push_cast at ht
      have HT := Lib.hid ht
      have HBS := Lib.hid (bogO_succ rows k)
      clear ht
      go_wp2_with fail
      refine HT.out.mono ?_
      rintro e w5 ⟨rfl, hx5⟩
      have HX5 := Lib.hid (HX.out.trans hx5)
      have HO5 := Lib.hid (OwnI.ext HO.out hx5)
      clear hx5 HT
      obtain ⟨t, ht⟩ : ∃ y, totO rows (k + 1) = y := ⟨_, rfl⟩
      rw [ht] at HBS ⊢
      clear ht
      by_cases h0 : t = 0
      · subst h0
        rw [if_pos rfl] at HBS
        have HROW := Lib.hid (own_chg HO5.out (((Ext.refl w5).alloc (.cells #[.int .i64 ((k : Int) + 1)] 3)).chg fun _ => False) fun _ _ => id)
        have HSZ := Lib.hid HX5.out.size
        have hbl := bogO_len rows k
        go_wp2_with (at_builtin; refine wp_append_from rfl _ _ 27 3 _ 1 8 rfl info_int (by kernel_rfl) rfl (by decide) w3.heap.size lv (bogO rows k).length _ rfl HROW.out (some ⟨w5.heap.size, 0, none⟩) 1 1 [.int .i64 ((k : Int) + 1)] rfl (fun h => by cases h) rfl ?_ ?_ (by omega) (by omega) (by have h2 := HSZ.out; simp; omega) ?_)
        · intro ad had j' u hj
          cases had
          match j', hj with
          | 0, hj => cases hj; rw [addr_add]; exact (Blk.new w5 _ _).cell 0 rfl
        · intro u hu
          simp only [List.mem_cons, List.not_mem_nil, or_false] at hu
          rcases hu with rfl
          rfl
        intro v6 w6 hO6 hg6 hn6
        have HO6 : Hid (OwnI w6 w3.heap.size v6 (bogO rows (k + 1))) := Lib.hid (by
          rw [HBS.out]
          unfold OwnI
          rw [List.length_append, List.map_append]
          exact hO6)
        have HX6 : Hid (Ext w3 w6) := Lib.hid (Chg.to_ext (HX5.out.alloc _) hg6 (fun q hq => (World.ownsRow.lt HROW.out q hq).1))
        clear hO6 hg6 hn6
        go_wp2
        go_roundw
        case rel => exact ⟨k + 1, v6, by omega, rfl, by go_num, HO6.out, HX6.out⟩
        case measure => simp [intOf]; omega
      · rw [if_neg h0, List.append_nil] at HBS
        go_wp2
        go_roundw
        case rel => exact ⟨k + 1, lv, by omega, rfl, by go_num, by rw [HBS.out]; exact HO5.out, HX5.out⟩
        case measure => simp [intOf]; omega
    · obtain rfl : k = most := by omega
      go_wp2
      refine bodyPost_ret (v := .tuple #[lv, .int .i64 0]) (by simp [results, Try.results8, go_sem]) rfl ⟨lv, rfl, by rw [HRE.out]; exact own_mono HO.out HX3.out.size, HX3.out.trans HX.out⟩
end Go.Proofs.Ytimhjdloiicbkaa
