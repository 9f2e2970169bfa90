/-
  The reference of chapter 1: the first turns with the least wear.
-/
import Derived.Test.YtlkbbcfbnbnagaaGreatRwb
import Derived.Test.YtlkbbcfbnbnagaaGreatSep
import Derived.Test.YtlkbbcfbnbnagaaGreatBoY
namespace Go.Proofs.YtlkbbcfbnbnagaaGreat
open Go.RowKit Go.BigFrame
attribute [local go_sem] Later.cell Later.frozen Lat.cell Lat.frozen
def Res.oi (base : Nat) (v : Value) (xs : List Int) : Res := Res.own base 3 1 v xs.length (xs.map (Value.int .i64))
theorem made_ints' (n : Nat) : (madeCells (Value.int .i64 0).cells (n * 1)).toList = (List.replicate n 0).map (Value.int .i64) := by
  apply List.ext_getElem
  · simp [madeCells]
  · intro i h1 h2
    simp [madeCells, Value.cells, Nat.mod_one]
theorem own_rd {W : World} {base : Nat} {a : Option Addr} {n c : Nat} {xs : List Int} (h : OwnI W base (.slice a n c) xs) : n = xs.length ∧ CellsAt W .i64 a xs := by
  obtain ⟨a', c', e, h1, -⟩ := (RdI.of_own (S := S0) h fun _ _ => id).cells
  cases e
  exact ⟨rfl, h1⟩
/-- What the reference's two variables hold. -/
def BestC (W : World) (o : Option (List Int × List Int)) (v u : Value) : Prop :=
  (o = none ∧ u = .int .i64 (-1)) ∨ ∃ p a c, o = some p ∧ v = .slice a p.1.length c ∧ CellsAt W .i64 a p.1 ∧ u = .int .i64 (maxL p.2) ∧ 0 ≤ maxL p.2
theorem BestC.ext {W W' : World} {o : Option (List Int × List Int)} {v u : Value} (h : BestC W o v u) (hx : Ext W W') : BestC W' o v u := by
  rcases h with h | ⟨p, a, c, h1, h2, h3, h4⟩
  · exact .inl h
  · exact .inr ⟨p, a, c, h1, h2, h3.ext hx, h4⟩
theorem zerosL_all (n m x : Nat) : zerosL n m m x = digs n m x := by unfold zerosL; rw [Nat.sub_self]; rfl
theorem zerosL_zero (n m x : Nat) : zerosL n m 0 x = List.replicate m 0 := by unfold zerosL digs; simp
theorem maxL_pos {l : List Int} (h0 : 0 < l.length) (h : ∀ y ∈ l, 0 ≤ y) : 0 ≤ maxL l := by
  have h1 := maxL_ge l l[0] (List.getElem_mem h0)
  have h2 := h _ (List.getElem_mem h0)
  omega
def plN (worn : List Int) (wks : List (List Int)) (n m x : Nat) : List Int × List Int := (digs n m x, runW wks (digs n m x) worn)
theorem range_pl {worn : List Int} {wks : List (List Int)} (n m x : Nat) : (List.range (x + 1)).map (plN worn wks n m) = (List.range x).map (plN worn wks n m) ++ [plN worn wks n m x] := by rw [List.range_succ, List.map_append]; rfl
theorem wrap_mulN {P n : Nat} (h : P * n ≤ 390625) : IntKind.i64.wrap ((P : Int) * (n : Int)) = ((P * n : Nat) : Int) := by
  have h1 : ((P * n : Nat) : Int) ≤ 390625 := by omega
  rw [← Int.natCast_mul]
  exact wrap_i64_in (by unfold I64; omega)
theorem frm_oi {w : World} {B g n c : Nat} {xs : List Int} (h : OwnI w B (.slice (some ⟨g, 0, none⟩) n c) xs) : Frm B [Res.oi B (.slice (some ⟨g, 0, none⟩) n c) xs] w := by
  refine ⟨fun i r hr => ?_, fun i j r s hi hj hij => ?_⟩
  · match i, hr with
    | 0, hr => cases hr; exact ⟨h, fun k hk => own_lt h k hk⟩
  · match i, j, hi, hj with
    | 0, 0, _, _ => exact absurd rfl hij
/-- The wear after j of the weeks. -/
structure RunAt (n : Nat) (f : Nat → List Int) (wks : List (List Int)) (ts : List Int) : Prop where
  len : ∀ j, j ≤ wks.length → (f j).length = n
  big : ∀ j, j ≤ wks.length → ∀ y ∈ f j, 0 ≤ y ∧ y ≤ 1000000000000
  step : ∀ j, (h : j < wks.length) → ∃ d : Nat, ts[j]? = some (d : Int) ∧ d < n ∧ f (j + 1) = afterL (f j) wks[j] d
theorem run_at {n : Nat} (hn : 0 < n) {worn : List Int} {wks : List (List Int)} (x : Nat) (hl : worn.length = n) (hok : wksOk n wks) (hm : wks.length ≤ 4) (hb : ∀ y ∈ worn, 0 ≤ y ∧ y ≤ 2000000000) :
    RunAt n (fun j => runW (wks.take j) ((digs n wks.length x).take j) worn) wks (digs n wks.length x) := by
  have key : ∀ j, (runW (wks.take j) ((digs n wks.length x).take j) worn).length = n ∧ ∀ y ∈ runW (wks.take j) ((digs n wks.length x).take j) worn, 0 ≤ y ∧ y ≤ 2000000000 + 1000000000 * (wks.take j).length :=
    fun j => runW_spec n hn (wks.take j) ((digs n wks.length x).take j) worn 2000000000 hl (fun wk hw => hok wk (List.mem_of_mem_take hw)) (fun d hd => digs_lt n hn _ x d (List.mem_of_mem_take hd)) (by omega) hb
  refine ⟨fun j _ => (key j).1, fun j _ y hy => ?_, fun j hj => ?_⟩
  · have h1 := (key j).2 y hy
    have h2 : (wks.take j).length ≤ 4 := by rw [List.length_take]; omega
    omega
  · have hd : j < (digs n wks.length x).length := by rw [digs_len]; exact hj
    have h1 := digs_lt n hn _ x _ (List.getElem_mem hd)
    refine ⟨((digs n wks.length x)[j]).toNat, ?_, by omega, ?_⟩
    · rw [List.getElem?_eq_getElem hd, Int.toNat_of_nonneg h1.1]
    · exact runW_take wks _ worn j hj hd
set_option maxRecDepth 100000 in
set_option maxHeartbeats 8000000 in
theorem ref_plan (worn : List Int) (wks : List (List Int)) (wa ka : Option Addr) (wc kc : Nat) (w : World) (hw : CellsAt w .i64 wa worn) (hk : WkC w ka wks) (h0 : 0 < worn.length) (hn : worn.length ≤ 25) (hm : wks.length ≤ 4) (hok : wksOk worn.length wks) (hb : ∀ y ∈ worn, 0 ≤ y ∧ y ≤ 2000000000) :
    Calls Tryz.prog 17 #[.slice wa worn.length wc, .slice ka wks.length kc] w fun e w' => ∃ p a c, bestL (plansL wks [] worn) = some p ∧ e = .returned (.tuple #[.slice a p.1.length c, .int .i64 (maxL p.2)]) ∧ CellsAt w' .i64 a p.1 ∧ Ext w w' := by
  have HW := Lib.hid hw
  have HK := Lib.hid hk
  have HRA := Lib.hid (fun x => run_at h0 x rfl hok hm hb)
  have HPL : Hid (plansL wks [] worn = (List.range (worn.length ^ wks.length)).map (plN worn wks worn.length wks.length)) := Lib.hid (plansL_digs wks [] worn h0 hok)
  have HOK := Lib.hid hok
  have HPM : Hid (∀ i, i < wks.length → worn.length ^ i * worn.length ≤ 390625) := Lib.hid (fun i hi => by
    rw [← Nat.pow_succ]
    exact Nat.le_trans (Nat.pow_le_pow_left hn _) (Nat.pow_le_pow_right (by decide) (by omega) : 25 ^ (i + 1) ≤ 25 ^ 4))
  have HPS : Hid (∀ i, worn.length ^ (i + 1) = worn.length ^ i * worn.length) := Lib.hid (fun i => Nat.pow_succ ..)
  have HP0 : Hid (worn.length ^ 0 = 1) := Lib.hid rfl
  have HAL : Hid (worn.length ^ wks.length ≤ 390625) := Lib.hid (Nat.le_trans (Nat.pow_le_pow_left hn _) (Nat.pow_le_pow_right (by decide) hm : 25 ^ wks.length ≤ 25 ^ 4))
  have HPN : Hid (∀ x, plN worn wks worn.length wks.length x = (digs worn.length wks.length x, runW (wks.take wks.length) ((digs worn.length wks.length x).take wks.length) worn)) := Lib.hid (fun x => by
    unfold plN
    rw [List.take_length, List.take_of_length_le (by rw [digs_len]; exact Nat.le_refl _)])
  have HNE : Hid (bestL (plansL wks [] worn) ≠ none) := Lib.hid (fun h => plansL_ne wks [] worn h0 hok (bestL_none h))
  have HWL : Hid (∀ j, (h : j < wks.length) → wks[j].length = worn.length ∧ ∀ y ∈ wks[j], 0 ≤ y ∧ y ≤ 1000000000000) := Lib.hid (fun j h => ⟨(hok _ (List.getElem_mem h)).1, fun y hy => by have := (hok _ (List.getElem_mem h)).2 y hy; omega⟩)
  obtain ⟨n, hn'⟩ : ∃ n, worn.length = n := ⟨_, rfl⟩
  have HN := Lib.hid hn'
  obtain ⟨m, hm'⟩ : ∃ m, wks.length = m := ⟨_, rfl⟩
  have HM := Lib.hid hm'
  have HDV : Hid (∀ x j, x / n ^ (j + 1) = x / n ^ j / n) := Lib.hid (fun x j => by rw [Nat.pow_succ, Nat.div_div_eq_div_mul])
  have HDZ : Hid (∀ x, x / n ^ 0 = x) := Lib.hid (fun x => by simp)
  have HZS : Hid (∀ x j, j < m → (zerosL n m j x).set (m - 1 - j) ((x / n ^ j % n : Nat) : Int) = zerosL n m (j + 1) x) := Lib.hid (fun x j h => zerosL_set h)
  have HZL : Hid (∀ x j, j ≤ m → (zerosL n m j x).length = m) := Lib.hid (fun x j h => zerosL_len h)
  have HZA : Hid (∀ x, zerosL n m m x = digs n m x) := Lib.hid (fun x => zerosL_all n m x)
  have HZ0 : Hid (∀ x, zerosL n m 0 x = List.replicate m 0) := Lib.hid (fun x => zerosL_zero n m x)
  have HDL : Hid (∀ x, (digs n m x).length = m) := Lib.hid (fun x => digs_len n m x)
  rw [hn', hm'] at HPL HRA HPN HAL
  rw [hn'] at HPM HPS HP0 HWL
  rw [hn'] at h0 hn ⊢
  rw [hm'] at hm ⊢
  clear hw hk hok hb hn' hm'
  go_enter Tryz.func17, Tryz.ntmps17
  go_wp2
  go_loopw [7, 10] (fun s i wr => ∃ j : Nat, j ≤ m ∧ s = .int .i64 (n ^ j : Nat) ∧ i = .int .i64 j ∧ Ext w wr) (fun _ i _ => m - (intOf i).toNat)
  case atStart => exact ⟨0, Nat.zero_le _, by rw [HP0.out]; rfl, rfl, (Ext.refl w).alloc _⟩
  case round =>
    obtain ⟨j, hj, rfl, rfl, hx⟩ := hrel
    have HX := Lib.hid hx
    clear hx
    by_cases hlt : j < m
    · have hp := HPM.out j (by rw [HM.out]; exact hlt)
      have HS := Lib.hid (HPS.out j)
      generalize n ^ j = P at *
      have hwr := wrap_mulN hp
      clear hp
      go_wp2
      go_roundw
      case rel => exact ⟨j + 1, by omega, by rw [HS.out]; first | rfl | simp, by go_num, HX.out⟩
      case measure => simp [intOf]; omega
    · obtain rfl : m = j := by omega
      go_wp2
      go_loopw [8, 9, 11] (fun v u i wr => ∃ x : Nat, x ≤ n ^ m ∧ i = .int .i64 x ∧ BestC wr (bestL ((List.range x).map (plN worn wks n m))) v u ∧ Ext w wr) (fun _ _ i _ => n ^ m - (intOf i).toNat)
      case atStart => exact ⟨0, Nat.zero_le _, rfl, .inl ⟨rfl, rfl⟩, HX.out⟩
      case round =>
        obtain ⟨x, hx, rfl, hbc, hxr⟩ := hrel
        have HBC := Lib.hid hbc
        have HXR := Lib.hid hxr
        clear hbc hxr
        obtain ⟨w1, rfl⟩ : ∃ y, y = wr := ⟨_, rfl⟩
        have hal : n ^ m ≤ 390625 := HAL.out
        have HRX := Lib.hid (range_pl (worn := worn) (wks := wks) n m x)
        obtain ⟨A, hA⟩ : ∃ A, n ^ m = A := ⟨_, rfl⟩
        have HAE := Lib.hid hA
        rw [hA] at hx hal ⊢
        clear hA
        by_cases hlt : x < A
        · obtain ⟨f, hf⟩ : ∃ f : Nat → List Int, f = (fun j => runW (wks.take j) ((digs n m x).take j) worn) := ⟨_, rfl⟩
          have HF0 : Hid (f 0 = worn) := Lib.hid (by rw [hf]; rfl)
          have HFM : Hid (plN worn wks n m x = (digs n m x, f m)) := Lib.hid (by rw [HPN.out, hf])
          have HRU : Hid (RunAt n f wks (digs n m x)) := Lib.hid (by rw [hf]; exact HRA.out x)
          have HTL := Lib.hid (HDL.out x)
          have HTS := Lib.hid (HZA.out x)
          generalize digs n m x = ts at *
          obtain ⟨B, hB⟩ : ∃ B, B = w1.heap.size := ⟨_, rfl⟩
          have hB1 : B ≤ w1.heap.size := by omega
          have hB2 : w1.heap.size ≤ B := by omega
          have HBE := Lib.hid hB
          clear hf hB
          obtain ⟨i0, hi, hz0, hz1, hz2⟩ := info_parts info_int
          go_wp2_with (refine wpList_make_full _ rfl _ _ 24 rfl B 3 i0 (.int .i64 0) 1 (by kernel_rfl) hi hz0 hz1 .i64 .i64 _ _ m rfl rfl rfl rfl (by rw [hz2]; omega) (by unfold maxLen; omega) hB1 ?_)
          intro w4 hO4 hg4
          rw [← HBE.out] at hO4 ⊢
          have HO4 : Hid (OwnI w4 B (.slice (some ⟨B, 0, none⟩) m m) (zerosL n m 0 x)) := Lib.hid (by
            show w4.ownsRow _ _ _ _ (zerosL n m 0 x).length _
            rw [HZL.out x 0 (by omega), HZ0.out, ← made_ints']; simpa [Value.cells] using hO4)
          have HX4 : Hid (Ext w1 w4) := Lib.hid (Chg.to_ext (Ext.refl w1) (grown_chg hg4) (fun i e => by cases e))
          clear hO4 hg4 hi hz0 hz1 hz2
          go_wp2
          go_loopw [13, 15] (fun s i wq => ∃ j : Nat, j ≤ m ∧ s = .int .i64 (x / n ^ j : Nat) ∧ i = .int .i64 ((m : Int) - 1 - j) ∧ OwnI wq B (.slice (some ⟨B, 0, none⟩) m m) (zerosL n m j x) ∧ Ext w1 wq) (fun _ i _ => (intOf i + 1).toNat)
          case atStart => exact ⟨0, Nat.zero_le _, by rw [HDZ.out], congrArg (Value.int .i64) (by omega), HO4.out, HX4.out⟩
          case round =>
            obtain ⟨j, hj, rfl, rfl, ho, hxq⟩ := hrel
            have HO := Lib.hid ho
            have HXQ := Lib.hid hxq
            clear ho hxq
            by_cases hlj : j < m
            · obtain ⟨r, hr⟩ : ∃ r : Nat, r = m - 1 - j := ⟨_, rfl⟩
              have hri : (m : Int) - 1 - j = (r : Int) := by omega
              have HRR : Hid (r + j + 1 = m) := Lib.hid (by omega)
              rw [hri]
              have HSET := Lib.hid (HZS.out x j hlj)
              have HDN := Lib.hid (HDV.out x j)
              have hRx : x / n ^ j ≤ x := Nat.div_le_self _ _
              rw [← hr] at HSET
              generalize x / n ^ j = R at *
              obtain ⟨d, hd⟩ : ∃ d, R % n = d := ⟨_, rfl⟩
              obtain ⟨e, he⟩ : ∃ e, R / n = e := ⟨_, rfl⟩
              rw [hd] at HSET
              rw [he] at HDN
              have hdn : d < n := by rw [← hd]; exact Nat.mod_lt _ h0
              have her : e ≤ R := by rw [← he]; exact Nat.div_le_self _ _
              have hmd : (R : Int).tmod (n : Int) = (d : Int) := by rw [← hd]; rfl
              have hqd : (R : Int).tdiv (n : Int) = (e : Int) := by rw [← he]; rfl
              have hz : ¬ ((n : Int) = 0) := by omega
              have hz2 : ¬ (n = 0) := by omega
              have hwe : IntKind.i64.wrap (e : Int) = (e : Int) := wrap_i64_in (by unfold I64; omega)
              have hrm : ∀ W, (binOp .rem 3 (.int .i64 (R : Int)) (.int .i64 (n : Int))).run Tryz.prog W = .ok (.int .i64 (d : Int)) W := by
                intro W
                simp [binOp, go_sem, hz2, hmd]
              have hqu : ∀ W, (binOp .quo 3 (.int .i64 (R : Int)) (.int .i64 (n : Int))).run Tryz.prog W = .ok (.int .i64 (e : Int)) W := by
                intro W
                simp [binOp, go_sem, hz2, hqd, hwe]
              have HHG := Lib.hid (show r < (zerosL n m j x).length by rw [HZL.out x j hj]; omega)
              have HZM := Lib.hid (HZL.out x j hj)
              have hrl : r < m := by omega
              clear hd he hr hri
              go_upto_region 13 with fail
              refine wp_region_sep (by kernel_rfl) [.no, .no, .no, .no, .no, .no, .no, .no, .no, .any] B (fun L _ => [bif L 9 then Res.oi B (.slice (some ⟨B, 0, none⟩) m m) (zerosL n m (j + 1) x) else Res.oi B (.slice (some ⟨B, 0, none⟩) m m) (zerosL n m j x)]) (by kernel_rfl) (Nat.le_of_ble_eq_true rfl) (fun L L' u hh => by simp only [hh 9 rfl]) (fun _ => frm_oi HO.out) ?_
              intro T hT hne u hu
              clear hu
              refine lx_next 9 (by rfl) (by decide) ?_
              dsimp only [List.take, List.drop]
              repeat (go_big_quiet_step (fail))
              refine wpQuiet_nil ?_
              refine lx_loud (by rfl) (by kernel_rfl) ?_ (fun K hK => ?_)
              · intro L w3 hL hd hcl hC hs
                obtain ⟨y, rfl⟩ := hC
                simp only [hL, cond_false] at hs
                have ho : OwnI y.world B (.slice (some ⟨B, 0, none⟩) m m) (zerosL n m j x) := hs.get 0 rfl
                obtain ⟨c0, f0, l0⟩ := own_at ho r _ (List.getElem?_eq_getElem HHG.out)
                have hset := ho.set (i := r) HZM.out.symm (d : Int)
                rw [HSET.out] at hset
                have HSE := Lib.hid hset
                have HS := Lib.hid hs
                have hby : B ≤ wr.heap.size := by have := HXQ.out.size; omega
                generalize (zerosL n m j x)[r]'HHG.out = old at *
                clear hs hset ho
                go_wp2
                exact aft_set y hby trivial HS.out 0 rfl ((Chg.refl (fun k => (Value.slice (some ⟨B, 0, none⟩) m m).ownBlock = some k) y.world).setCell (p := ⟨B, r, none⟩) (.inr rfl) _) (r' := Res.oi B (.slice (some ⟨B, 0, none⟩) m m) (zerosL n m (j + 1) x)) HSE.out (fun _ hk => .inl hk) (by first | (simp [upd, hL]; done) | (simp [upd, hL]; rfl))
              go_simp
              with_reducible refine hK _ ?_
              clear hK K
              refine lx_next 1 (by rfl) (by decide) ?_
              dsimp only [List.take, List.drop]
              repeat (go_big_quiet_step (fail))
              refine wpQuiet_nil ?_
              refine lx_nil ?_
              intro y hF
              have hC2 := y.chg.mono (T := fun j => B ≤ j) (fun j _ ⟨_, h⟩ => h)
              simp only [cond_true] at hF
              have HO2 : Hid (OwnI y.world B (.slice (some ⟨B, 0, none⟩) m m) (zerosL n m (j + 1) x)) := Lib.hid (hF.get 0 rfl)
              have HX2 := Lib.hid (Chg.to_ext HXQ.out hC2 (fun i hi => by omega))
              clear hT hne hF hC2 hrm hqu
              generalize y.world = w5 at *
              go_wp2
              go_roundw
              case rel => exact ⟨j + 1, by omega, by rw [HDN.out], congrArg (Value.int .i64) (by have := HRR.out; omega), HO2.out, HX2.out⟩
              case measure => first | (simp [intOf]; done) | (simp [intOf]; omega)
            · obtain rfl : m = j := by omega
              have HTU : Hid (OwnI wr B (.slice (some ⟨B, 0, none⟩) m m) ts) := Lib.hid (by rw [← HTS.out]; exact HO.out)
              obtain ⟨w5, rfl⟩ : ∃ y, y = wr := ⟨_, rfl⟩
              have hneg : (m : Int) - 1 - (m : Int) = -1 := by omega
              rw [hneg]
              clear hneg
              generalize x / n ^ m = RR at *
              clear HO4 HX4 HO
              go_wp2
              go_loopw [14, 16] (fun v i wq => ∃ j : Nat, j ≤ m ∧ i = .int .i64 j ∧ (∃ a c, v = .slice a n c ∧ CellsAt wq .i64 a (f j)) ∧ Ext w5 wq) (fun _ i _ => m - (intOf i).toNat)
              case atStart => exact ⟨0, Nat.zero_le _, rfl, ⟨wa, wc, rfl, by rw [HF0.out]; exact HW.out.ext (HXR.out.trans HXQ.out)⟩, Ext.refl _⟩
              case round =>
                obtain ⟨j, hj, rfl, ⟨na, nc, rfl, hnow⟩, hx5⟩ := hrel
                have HNW := Lib.hid hnow
                have HX5 := Lib.hid hx5
                clear hnow hx5
                by_cases hlj : j < m
                · have hjm : j < wks.length := by rw [HM.out]; exact hlj
                  obtain ⟨d, hd, hdn, hst⟩ := HRU.out.step j hjm
                  have hfl := HRU.out.len j (by omega)
                  have hfb := HRU.out.big j (by omega)
                  obtain ⟨hwl, hwb⟩ := HWL.out j hjm
                  obtain ⟨b, o, ua, uc, e, c1, c3, -⟩ := (HK.out.ext ((HXR.out.trans HXQ.out).trans HX5.out)) j hjm
                  subst e
                  have l1 := lt_of_cell c1
                  simp only at l1
                  obtain ⟨t1, -, t2⟩ := own_at (HTU.out.ext HX5.out) j _ hd
                  have HRW := Lib.hid (fun W (hxw : Ext wr W) => ref_wear (f j) wks[j] na ua nc uc d W (HNW.out.ext hxw) (c3.ext hxw) (fun h => by obtain ⟨b, o, e, _⟩ := HNW.out 0 (by omega); rw [h] at e; cases e) (by omega) (by omega) (by omega) hfb hwb)
                  have HST := Lib.hid hst
                  have HFL := Lib.hid (HRU.out.len (j + 1) (by omega))
                  rw [hwl] at c1
                  rw [hfl, hwl] at HRW
                  rw [← hst] at HRW
                  generalize wks[j] = wk at *
                  clear hd hst hfl hfb hwl hwb c3 hjm
                  go_upto_region 17 with fail
                  go_still_tail 9, (by kernel_rfl)
                  change wpList _ _ _ _ _ wr.drew
                  go_wp2_with fail
                  refine (HRW.out _ (Ext.refl wr).drew).mono ?_
                  rintro e w6 ⟨v6, rfl, hO6, hx6⟩
                  obtain ⟨xa, xc, rfl⟩ := own_shape hO6
                  have hrd := own_rd hO6
                  have HN6 := Lib.hid hrd.2
                  have HX6 := Lib.hid (HX5.out.trans ((Ext.refl wr).drew.trans hx6))
                  rw [HFL.out]
                  clear hO6 hx6 hrd
                  go_wp2
                  go_roundw
                  case rel => exact ⟨j + 1, by omega, by go_num, ⟨_, _, rfl, HN6.out⟩, HX6.out⟩
                  case measure => simp [intOf]; omega
                · obtain rfl : m = j := by omega
                  have hfl := HRU.out.len m (by rw [HM.out]; exact Nat.le_refl _)
                  have hfp := maxL_pos (l := f m) (by omega) (fun y hy => (HRU.out.big m (by rw [HM.out]; exact Nat.le_refl _) y hy).1)
                  have HMO := Lib.hid (fun W (hxw : Ext wr W) => ref_most (f m) na nc W (HNW.out.ext hxw) (by omega) (by omega))
                  rw [hfl] at HMO
                  clear hfl
                  generalize hMX : maxL (f m) = mx at *
                  have HMX := Lib.hid hMX
                  clear hMX
                  go_wp2_with fail
                  refine (HMO.out _ (Ext.refl wr)).mono ?_
                  rintro e w6 ⟨rfl, hx6⟩
                  have HX6 := Lib.hid (HX5.out.trans hx6)
                  have HX7 := Lib.hid ((HXR.out.trans HXQ.out).trans HX6.out)
                  have HNEW : Hid (BestC w6 (some (plN worn wks n m x)) (.slice (some ⟨B, 0, none⟩) m m) (.int .i64 mx)) := Lib.hid (.inr ⟨_, some ⟨B, 0, none⟩, m, rfl, by rw [HFM.out, HTL.out], by rw [HFM.out]; exact (own_rd (HTU.out.ext HX6.out)).2, by rw [HFM.out, HMX.out], by rw [HFM.out, HMX.out]; exact hfp⟩)
                  have HOLD := Lib.hid (HBC.out.ext (HXQ.out.trans HX6.out))
                  clear hx6 HX5
                  rcases HOLD.out with ⟨ho, rfl⟩ | ⟨p, a, c, ho, rfl, hpc, rfl, hp0⟩
                  · have HEN : Hid (bestL ((List.range (x + 1)).map (plN worn wks n m)) = some (plN worn wks n m x)) := Lib.hid (by rw [HRX.out, bestL_snoc, ho]; rfl)
                    clear ho
                    go_wp2
                    go_roundw
                    case rel => exact ⟨x + 1, by omega, by go_num, by rw [HEN.out]; exact HNEW.out, HX7.out⟩
                    case measure => simp [intOf]; omega
                  · have HEN : Hid (bestL ((List.range (x + 1)).map (plN worn wks n m)) = if mx < maxL p.2 then some (plN worn wks n m x) else some p) := Lib.hid (by rw [HRX.out, bestL_snoc, ho]; unfold bestStep; simp only [HFM.out, HMX.out])
                    have HPC := Lib.hid hpc
                    rw [ho] at HOLD
                    generalize maxL p.2 = M at *
                    have h1 : ¬ M < 0 := by omega
                    clear hpc ho
                    by_cases h2 : mx < M
                    · rw [if_pos h2] at HEN
                      go_wp2
                      go_roundw
                      case rel => exact ⟨x + 1, by omega, by go_num, by rw [HEN.out]; exact HNEW.out, HX7.out⟩
                      case measure => simp [intOf]; omega
                    · rw [if_neg h2] at HEN
                      go_wp2
                      go_roundw
                      case rel => exact ⟨x + 1, by omega, by go_num, by rw [HEN.out]; exact HOLD.out, HX7.out⟩
                      case measure => simp [intOf]; omega
        · obtain rfl : x = A := by omega
          rcases HBC.out with ⟨ho, -⟩ | ⟨p, a, c, ho, rfl, hpc, rfl, hp0⟩
          · exfalso
            apply HNE.out
            rw [HPL.out, HAE.out]
            exact ho
          · have HE : Hid (bestL (plansL wks [] worn) = some p) := Lib.hid (by rw [HPL.out, HAE.out]; exact ho)
            have HPC := Lib.hid hpc
            clear ho hpc
            go_wp2
            refine bodyPost_ret (v := .tuple #[.slice a p.1.length c, .int .i64 (maxL p.2)]) (by simp [results, Tryz.results17, go_sem]) rfl ⟨p, a, c, HE.out, rfl, HPC.out, HXR.out⟩
end Go.Proofs.YtlkbbcfbnbnagaaGreat
