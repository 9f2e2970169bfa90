/-
  The reference of chapter 1: the errors of wear, for so many sectors.
-/
import Derived.Test.YtlkbbcfbnbnagaaGreatPlp
import Derived.Test.YtlkbbcfbnbnagaaGreatBoW
import Derived.Test.YtlkbbcfbnbnagaaGreatOwn
import Derived.Test.YtlkbbcfbnbnagaaGreatApp
import Derived.StillTail
import Derived.StillTailTactics
import Derived.Test.YtlkbbcfbnbnagaaGreatBoX
namespace Go.Proofs.YtlkbbcfbnbnagaaGreat
open Go.RowKit Go.BigFrame
attribute [local go_sem] Later.cell Later.frozen
set_option maxHeartbeats 2000000 in
theorem ref_most (xs : List Int) (a : Option Addr) (c : Nat) (w : World) (hx : CellsAt w .i64 a xs) (h0 : 0 < xs.length) (hl : xs.length ≤ 1000000) :
    Calls Tryz.prog 18 #[.slice a xs.length c] w fun e w' => e = .returned (.int .i64 (maxL xs)) ∧ Ext w w' := by
  have HX := Lib.hid hx
  obtain ⟨b, o, rfl, hc0⟩ := hx 0 h0
  obtain ⟨n, hn⟩ : ∃ n, xs.length = n := ⟨_, rfl⟩
  have HN := Lib.hid hn
  have hm0 : maxTo xs 0 = xs[0] := by unfold maxTo; cases xs with
    | nil => simp at h0
    | cons y l => rfl
  have HM0 := Lib.hid hm0
  rw [Nat.add_zero] at hc0
  generalize xs[0] = x0 at *
  rw [hn] at h0 hl ⊢
  have hb := lt_of_cell hc0
  simp only at hb
  clear hx hn hm0
  go_enter Tryz.func18, Tryz.ntmps18
  go_wp2
  go_loopw [3, 4] (fun m i wr => ∃ k : Nat, k + 1 ≤ n ∧ m = .int .i64 (maxTo xs k) ∧ i = .int .i64 (k + 1 : Nat) ∧ Ext w wr) (fun _ i _ => n - (intOf i).toNat)
  case atStart => exact ⟨0, by omega, by rw [HM0.out], by rfl, Ext.refl w⟩
  case round =>
    obtain ⟨k, hk, rfl, rfl, hx1⟩ := hrel
    by_cases hlt : k + 1 < n
    · have hkl : k + 1 < xs.length := by rw [HN.out]; exact hlt
      obtain ⟨b', o', e, c1⟩ := HX.out (k + 1) hkl
      cases e
      replace c1 := hx1.cell c1
      have hs := maxTo_succ xs k hkl
      have HS := Lib.hid hs
      generalize xs[k + 1] = y at *
      have hbl := lt_of_cell c1
      simp only at hbl
      clear hs hkl
      go_wp2
      go_roundw
      case rel => exact ⟨k + 1, by omega, congrArg (Value.int .i64) (by rw [HS.out]; first | rfl | omega), by go_num, hx1⟩
      case measure => simp [intOf]; omega
    · have e := maxTo_last xs k (by rw [HN.out]; omega)
      have HE := Lib.hid e
      clear e
      go_wp2
      go_ret
      exact ⟨ret_int HE.out, hx1⟩
set_option maxRecDepth 100000 in
set_option maxHeartbeats 4000000 in
theorem ref_wear (xs ys : List Int) (xa ya : Option Addr) (xc yc k : Nat) (w : World) (hx : CellsAt w .i64 xa xs) (hy : CellsAt w .i64 ya ys) (hnil : xa = none → xs.length = 0 ∧ xc = 0) (hl : ys.length = xs.length)
    (hk : k < xs.length) (hn : xs.length ≤ 1000) (hbx : ∀ x ∈ xs, 0 ≤ x ∧ x ≤ 1000000000000) (hby : ∀ y ∈ ys, 0 ≤ y ∧ y ≤ 1000000000000) :
    Calls Tryz.prog 19 #[.slice xa xs.length xc, .slice ya ys.length yc, .int .i64 k] w fun e w' => ∃ v, e = .returned v ∧ OwnI w' w.heap.size v (afterL xs ys k) ∧ Ext w w' := by
  have HX := Lib.hid hx
  have HY := Lib.hid hy
  have HBY := Lib.hid hby
  have HL0 := Lib.hid hl
  have HWL := Lib.hid (wearN_len xs ys k)
  have HWA := Lib.hid (wearN_all xs ys k hl hk)
  have HST : Hid (∀ j, (hj : j < ys.length) → ∃ q xv, q < xs.length ∧ (j + k) % xs.length = q ∧ (wearN xs ys k j)[q]? = some xv ∧ wearN xs ys k (j + 1) = (wearN xs ys k j).set q (xv + ys[j]) ∧ 0 ≤ xv ∧ xv ≤ 2000000000000) := Lib.hid (fun j hj => by
    obtain ⟨h1, h2⟩ := wearN_set xs ys k j (by omega) hj
    have hs : (j + k) % xs.length < xs.length := Nat.mod_lt _ (by omega)
    refine ⟨_, _, hs, rfl, List.getElem?_eq_getElem h1, h2, ?_⟩
    have h3 := wearN_get xs ys k hl hk j (by omega) _ hs
    rw [getD_lt h1, getD_lt hs] at h3
    have h4 := hbx _ (List.getElem_mem hs)
    split at h3
    · have hq : ((j + k) % xs.length + xs.length - k) % xs.length < ys.length := by rw [hl]; exact Nat.mod_lt _ (by omega)
      rw [getD_lt hq] at h3
      have h5 := hby _ (List.getElem_mem hq)
      omega
    · omega)
  have HW0 : Hid (wearN xs ys k 0 = xs) := Lib.hid rfl
  have HNL := Lib.hid hnil
  rw [hl]
  obtain ⟨n, hn'⟩ : ∃ n, xs.length = n := ⟨_, rfl⟩
  have HN := Lib.hid hn'
  generalize wearN xs ys k = wn at *
  generalize afterL xs ys k = al at *
  rw [hn'] at hk hn ⊢
  clear hx hy hnil hl hbx hby hn'
  go_enter Tryz.func19, Tryz.ntmps19
  go_upto_region 1 with fail
  have hE : OwnI (w.alloc (.cells #[] 3)) w.heap.size (.slice (some ⟨w.heap.size, 0, none⟩) 0 0) [] := own_empty rfl (Nat.le_refl _)
  have HE := Lib.hid hE
  clear hE
  have hnn := HNL.out
  rw [HN.out] at hnn
  go_wp2_with (at_builtin; refine wp_append_vals rfl _ _ 24 3 (.int .i64 0) 1 8 rfl info_int (by kernel_rfl) rfl (by decide) w.heap.size _ 0 [] rfl HE.out xa n xc (xs.map (Value.int .i64)) rfl hnn (by simp [HN.out]) (CellsAt.vals (HX.out.ext ((Ext.refl w).alloc _))) (ints_one _ _) (by omega) (by omega) (by simp) ?_)
  intro v' w5 hO5 hg5
  have hC5 := grown_chg hg5
  have hE5 := Chg.to_ext ((Ext.refl w).alloc (.cells #[] 3)) hC5 (fun i e => (own_lt HE.out i e).1)
  have hO6 : OwnI w5 w.heap.size v' xs := by
    show w5.ownsRow _ _ _ _ xs.length (xs.map (Value.int .i64))
    rw [HN.out]; simpa using hO5
  obtain ⟨g, gc, rfl, hg0, hg1, -⟩ := own_head hO6 (by rw [HN.out]; omega)
  rw [HN.out] at hO6 ⊢
  have HO5 := Lib.hid hO6
  have HE5 := Lib.hid hE5
  clear hO5 hC5 hg5 hO6 hE5 hg1 hnn
  go_wp2
  go_loopw [8] (fun i wr => ∃ j : Nat, j ≤ n ∧ i = .int .i64 j ∧ OwnI wr w.heap.size (.slice (some ⟨g, 0, none⟩) n gc) (wn j) ∧ Chg (· = g) w5 wr) (fun i _ => n - (intOf i).toNat)
  case atStart => exact ⟨0, Nat.zero_le _, rfl, by rw [HW0.out]; exact HO5.out, Chg.refl _ _⟩
  case round =>
    obtain ⟨j, hj, rfl, hO, hC⟩ := hrel
    have HO := Lib.hid hO
    have HC := Lib.hid hC
    clear hO hC
    by_cases hlt : j < n
    · have hjy : j < ys.length := by rw [HL0.out, HN.out]; exact hlt
      obtain ⟨q, xv, hqn, hqe, hgt, hs, x0, x1⟩ := HST.out j hjy
      have HS := Lib.hid hs
      obtain ⟨r0, r1, r2⟩ := own_at HO.out q xv hgt
      obtain ⟨b2, o2, e2, c2⟩ := (HY.out.ext HE5.out) j hjy
      subst e2
      have hb2 : b2 < w.heap.size := by
        obtain ⟨b3, o3, e3, c3⟩ := HY.out j hjy
        cases e3
        exact lt_of_cell c3
      replace c2 := HC.out.cell c2 (by show ¬ b2 = g; omega)
      have l2 := lt_of_cell c2
      simp only at l2
      obtain ⟨y0, y1⟩ := HBY.out ys[j] (List.getElem_mem _)
      have HLW := Lib.hid (HWL.out j)
      rw [HN.out] at hqn hqe
      have hqm : ((j : Int) + (k : Int)).tmod (n : Int) = (q : Int) := by rw [← hqe]; norm_cast
      generalize ys[j] = yv at *
      have hz : ¬ ((n : Int) = 0) := by omega
      have hz2 : ¬ (n = 0) := by omega
      clear hs hgt hqe hjy
      have hwr : IntKind.i64.wrap ((j : Int) + (k : Int)) = (j : Int) + (k : Int) := wrap_i64_in (by unfold I64; omega)
      have hrm : ∀ W, (binOp .rem 3 (.int .i64 ((j : Int) + (k : Int))) (.int .i64 (n : Int))).run Tryz.prog W = .ok (.int .i64 (q : Int)) W := by
        intro W
        simp [binOp, go_sem, hz2, hqm]
      go_upto_region 5 with fail
      go_still_tail 15, (by kernel_rfl)
      change wpList _ _ _ _ _ wr.drew
      go_wp2
      have hO' := (HO.out.ext (Ext.refl wr).drew).set (i := q) (by have := HLW.out; have := HN.out; omega) (xv + yv)
      rw [← HS.out] at hO'
      have HO' := Lib.hid hO'
      have HC' := Lib.hid (HC.out.drew.setCell (p := ⟨g, q, none⟩) (.inr rfl) (.int .i64 (xv + yv)))
      clear hO'
      go_roundw
      case rel => exact ⟨j + 1, by omega, by go_num, HO'.out, HC'.out⟩
      case measure => simp [intOf]; omega
    · obtain rfl : j = n := by omega
      go_wp2
      go_ret
      refine ⟨_, rfl, ?_, Chg.to_ext HE5.out HC.out (by rintro i rfl; exact hg0)⟩
      have h1 := HWA.out
      rw [HN.out] at h1
      rw [← h1]
      have h2 := HO.out
      exact h2
end Go.Proofs.YtlkbbcfbnbnagaaGreat
namespace Go.Proofs.YtlkbbcfbnbnagaaGreat
open Go.RowKit Go.BigFrame
attribute [local go_sem] Later.cell Later.frozen
/-- A slice of slices of integers, as far as it is read. -/
def WkC (w : World) (a : Option Addr) (wks : List (List Int)) : Prop := ∀ i, (h : i < wks.length) → ∃ b o ua uc, a = some ⟨b, o, none⟩ ∧ w.cell? ⟨b, o + i, none⟩ = some (.slice ua wks[i].length uc) ∧ CellsAt w .i64 ua wks[i] ∧ (ua = none → wks[i].length = 0 ∧ uc = 0)
theorem WkC.ext {w w' : World} {a : Option Addr} {wks : List (List Int)} (h : WkC w a wks) (hx : Ext w w') : WkC w' a wks := fun i hi => by
  obtain ⟨b, o, ua, uc, e, h1, h2, h3⟩ := h i hi
  exact ⟨b, o, ua, uc, e, hx.cell h1, h2.ext hx, h3⟩
theorem WkC.one {w : World} {wk : List Int} {ua : Option Addr} {uc n : Nat} (h : CellsAt w .i64 ua wk) (h3 : ua = none → wk.length = 0 ∧ uc = 0) (t : TypeId) (hn : n = w.heap.size) : WkC (w.alloc (.cells #[.slice ua wk.length uc] t)) (some ⟨n, 0, none⟩) [wk] := by
  subst hn
  intro i hi
  match i, hi with
  | 0, _ => exact ⟨w.heap.size, 0, ua, uc, rfl, (Blk.new w _ t).cell 0 rfl, h.ext ((Ext.refl w).alloc _), h3⟩
theorem form_len {n : Nat} {worn : List Int} {wks : List (List Int)} (h : worn.length ≠ n) : formB n worn wks = 4 := by unfold formB; simp [h]
theorem form_wk {n : Nat} {worn : List Int} {wks : List (List Int)} {k : Nat} (hk : k < wks.length) (h : wks[k].length ≠ n) : formB n worn wks = 4 := by
  unfold formB
  rw [if_pos]
  rw [Bool.or_eq_true]
  exact .inr (List.any_eq_true.2 ⟨_, List.getElem_mem hk, by simpa using h⟩)
theorem form_bad {n : Nat} {worn : List Int} {wks : List (List Int)} (h1 : worn.length = n) (h2 : ∀ k, (h : k < wks.length) → wks[k].length = n) (h3 : (!ins 0 1000000000 worn || wks.any fun l => !ins 0 1000000 l) = true) : formB n worn wks = 2 := by
  unfold formB
  rw [if_neg, if_pos h3]
  rw [Bool.or_eq_true, not_or]
  refine ⟨by simp [h1], fun h => ?_⟩
  obtain ⟨l, hl, e⟩ := List.any_eq_true.1 h
  obtain ⟨k, hk, rfl⟩ := List.mem_iff_getElem.1 hl
  simp [h2 k hk] at e
theorem ins_bad {a b : Int} {l : List Int} {i : Nat} (hi : i < l.length) (h : l[i] < a ∨ b < l[i]) : ins a b l = false := by
  unfold ins
  rw [Bool.not_eq_false']
  refine List.any_eq_true.2 ⟨_, List.getElem_mem hi, ?_⟩
  unfold out1
  rcases h with h | h <;> simp [h]
theorem form_worn {n : Nat} {worn : List Int} {wks : List (List Int)} (h1 : worn.length = n) (h2 : ∀ k, (h : k < wks.length) → wks[k].length = n) {i : Nat} (hi : i < worn.length) (h : worn[i] < 0 ∨ 1000000000 < worn[i]) : formB n worn wks = 2 :=
  form_bad h1 h2 (by rw [ins_bad hi h]; rfl)
theorem form_hit {n : Nat} {worn : List Int} {wks : List (List Int)} (h1 : worn.length = n) (h2 : ∀ k, (h : k < wks.length) → wks[k].length = n) {k i : Nat} (hk : k < wks.length) (hi : i < wks[k].length) (h : wks[k][i] < 0 ∨ 1000000 < wks[k][i]) : formB n worn wks = 2 :=
  form_bad h1 h2 (by
    rw [Bool.or_eq_true]
    exact .inr (List.any_eq_true.2 ⟨_, List.getElem_mem hk, by rw [ins_bad hi h]; rfl⟩))
theorem ins_good {a b : Int} {l : List Int} (h : ∀ i, (hi : i < l.length) → a ≤ l[i] ∧ l[i] ≤ b) : ins a b l = true := by
  unfold ins
  rw [Bool.not_eq_true', List.any_eq_false]
  intro y hy
  obtain ⟨i, hi, rfl⟩ := List.mem_iff_getElem.1 hy
  have := h i hi
  unfold out1
  simp; omega
theorem form_ok {n : Nat} {worn : List Int} {wks : List (List Int)} (h1 : worn.length = n) (h2 : ∀ k, (h : k < wks.length) → wks[k].length = n) (h3 : ∀ i, (hi : i < worn.length) → 0 ≤ worn[i] ∧ worn[i] ≤ 1000000000) (h4 : ∀ k, (h : k < wks.length) → ∀ i, (hi : i < wks[k].length) → 0 ≤ wks[k][i] ∧ wks[k][i] ≤ 1000000) : formB n worn wks = 0 := by
  unfold formB
  rw [if_neg, if_neg]
  · rw [ins_good h3]
    rw [Bool.or_eq_true, not_or]
    refine ⟨by simp, fun h => ?_⟩
    obtain ⟨l, hl, e⟩ := List.any_eq_true.1 h
    obtain ⟨k, hk, rfl⟩ := List.mem_iff_getElem.1 hl
    rw [ins_good (h4 k hk)] at e
    cases e
  · rw [Bool.or_eq_true, not_or]
    refine ⟨by simp [h1], fun h => ?_⟩
    obtain ⟨l, hl, e⟩ := List.any_eq_true.1 h
    obtain ⟨k, hk, rfl⟩ := List.mem_iff_getElem.1 hl
    simp [h2 k hk] at e
set_option maxHeartbeats 4000000 in
theorem ref_form (n : Nat) (worn : List Int) (wks : List (List Int)) (wa ka : Option Addr) (wc kc : Nat) (w : World) (hw : CellsAt w .i64 wa worn) (hk : WkC w ka wks) (hn : n ≤ 1000) (hl : wks.length ≤ 1000) :
    Calls Tryz.prog 16 #[.int .i64 n, .slice wa worn.length wc, .slice ka wks.length kc] w fun e w' => e = .returned (.int .i64 (formB n worn wks)) ∧ Ext w w' := by
  have HW := Lib.hid hw
  have HK := Lib.hid hk
  obtain ⟨r, hr⟩ : ∃ r, formB n worn wks = r := ⟨_, rfl⟩
  have HR := Lib.hid hr
  rw [hr]
  clear hw hk hr
  go_enter Tryz.func16, Tryz.ntmps16
  by_cases h1 : worn.length = n
  case neg =>
    obtain rfl : r = 4 := by rw [← HR.out]; exact form_len h1
    have hne : ((worn.length : Int) != (n : Int)) = true := by simpa using fun h => h1 (by omega)
    go_wp2
    go_ret
    exact ⟨rfl, Ext.refl _⟩
  have H1 := Lib.hid h1
  rw [h1]
  clear h1
  go_wp2
  go_loopw [7] (fun i wr => ∃ k : Nat, k ≤ wks.length ∧ i = .int .i64 k ∧ (∀ j, (h : j < wks.length) → j < k → wks[j].length = n) ∧ wr = w) (fun i _ => wks.length - (intOf i).toNat)
  case atStart => exact ⟨0, Nat.zero_le _, rfl, fun j _ h => absurd h (by omega), rfl⟩
  case round =>
    obtain ⟨k, hk, rfl, hall, rfl⟩ := hrel
    have HA := Lib.hid hall
    clear hall
    by_cases hlt : k < wks.length
    · obtain ⟨b, o, ua, uc, e, c1, -, -⟩ := HK.out k hlt
      subst e
      have l1 := lt_of_cell c1
      simp only at l1
      by_cases h2 : wks[k].length = n
      case neg =>
        obtain rfl : r = 4 := by rw [← HR.out]; exact form_wk hlt h2
        generalize wks[k].length = m at *
        have hne : ((m : Int) != (n : Int)) = true := by simpa using fun h => h2 (by omega)
        go_wp2
        go_ret
        exact ⟨rfl, Ext.refl _⟩
      have H2 := Lib.hid h2
      rw [h2] at c1
      clear h2
      have hne : ((n : Int) != (n : Int)) = false := by simp
      go_wp2
      go_roundw
      case rel =>
        refine ⟨k + 1, by omega, by go_num, fun j hj hjk => ?_, by first | trivial | rfl⟩
        rcases Nat.lt_or_ge j k with h | h
        · exact HA.out j hj h
        · obtain rfl : j = k := by omega
          exact H2.out
      case measure => simp [intOf]; omega
    · have HL : Hid (∀ j, (h : j < wks.length) → wks[j].length = n) := Lib.hid (fun j hj => HA.out j hj (by omega))
      clear HA
      obtain ⟨w0, rfl⟩ : ∃ x, x = wr := ⟨_, rfl⟩
      go_wp2
      go_loopw [8, 9] (fun i _ wr => ∃ s : Nat, s ≤ n ∧ i = .int .i64 s ∧ (∀ j, (h : j < worn.length) → j < s → 0 ≤ worn[j] ∧ worn[j] ≤ 1000000000) ∧ (∀ q, (h : q < wks.length) → ∀ j, (h : j < wks[q].length) → j < s → 0 ≤ wks[q][j] ∧ wks[q][j] ≤ 1000000) ∧ wr = w0) (fun i _ _ => n - (intOf i).toNat)
      case atStart => exact ⟨0, Nat.zero_le _, rfl, fun j _ h => absurd h (by omega), fun q _ j _ h => absurd h (by omega), by first | trivial | rfl⟩
      case round =>
        obtain ⟨s, hs, rfl, ha, hb, rfl⟩ := hrel
        have HA := Lib.hid ha
        have HB := Lib.hid hb
        clear ha hb
        by_cases hls : s < n
        · have hsw : s < worn.length := by rw [H1.out]; exact hls
          obtain ⟨b2, o2, e2, c2⟩ := HW.out s hsw
          subst e2
          have l2 := lt_of_cell c2
          simp only at l2
          by_cases hbad : worn[s] < 0 ∨ 1000000000 < worn[s]
          case pos =>
            obtain rfl : r = 2 := by rw [← HR.out]; exact form_worn H1.out HL.out hsw hbad
            generalize worn[s] = y at *
            by_cases h0 : y < 0
            · go_wp2
              go_ret
              exact ⟨rfl, Ext.refl _⟩
            · have h3 : 1000000000 < y := by omega
              go_wp2
              go_ret
              exact ⟨rfl, Ext.refl _⟩
          have HGO : Hid (0 ≤ worn[s] ∧ worn[s] ≤ 1000000000) := Lib.hid (by omega)
          have h0 : ¬ worn[s] < 0 := by omega
          have h3 : ¬ 1000000000 < worn[s] := by omega
          have HGY : Hid (∀ j, (h : j < worn.length) → j < s + 1 → 0 ≤ worn[j] ∧ worn[j] ≤ 1000000000) := Lib.hid (fun j hj hjs => by
            rcases Nat.lt_or_ge j s with h | h
            · exact HA.out j hj h
            · obtain rfl : j = s := by omega
              exact HGO.out)
          generalize worn[s] = y at *
          clear hbad HGO
          obtain ⟨w1, rfl⟩ : ∃ x, x = wr := ⟨_, rfl⟩
          go_wp2
          go_loopw [9] (fun i wr => ∃ q : Nat, q ≤ wks.length ∧ i = .int .i64 q ∧ (∀ p, (h : p < wks.length) → p < q → ∀ j, (h : j < wks[p].length) → j = s → 0 ≤ wks[p][j] ∧ wks[p][j] ≤ 1000000) ∧ wr = w1) (fun i _ => wks.length - (intOf i).toNat)
          case atStart => exact ⟨0, Nat.zero_le _, rfl, fun p _ h => absurd h (by omega), by first | trivial | rfl⟩
          case round =>
            obtain ⟨q, hq, rfl, hc, rfl⟩ := hrel
            have HC := Lib.hid hc
            clear hc
            by_cases hlq : q < wks.length
            · obtain ⟨b, o, ua, uc, e, c1, c3, -⟩ := HK.out q hlq
              subst e
              have l1 := lt_of_cell c1
              simp only at l1
              have hsq : s < wks[q].length := by rw [HL.out q hlq]; exact hls
              obtain ⟨b3, o3, e3, c4⟩ := c3 s hsq
              subst e3
              have l4 := lt_of_cell c4
              simp only at l4
              rw [HL.out q hlq] at c1
              by_cases hbad : wks[q][s] < 0 ∨ 1000000 < wks[q][s]
              case pos =>
                obtain rfl : r = 2 := by rw [← HR.out]; exact form_hit H1.out HL.out hlq hsq hbad
                generalize wks[q][s] = z at *
                clear c3 hsq
                by_cases h5 : z < 0
                · go_wp2
                  go_ret
                  exact ⟨rfl, Ext.refl _⟩
                · have h6 : 1000000 < z := by omega
                  go_wp2
                  go_ret
                  exact ⟨rfl, Ext.refl _⟩
              have HGZ : Hid (∀ p, (h : p < wks.length) → p < q + 1 → ∀ j, (h : j < wks[p].length) → j = s → 0 ≤ wks[p][j] ∧ wks[p][j] ≤ 1000000) := Lib.hid (fun p hp hpq j hj hjs => by
                rcases Nat.lt_or_ge p q with h | h
                · exact HC.out p hp h j hj hjs
                · obtain rfl : p = q := by omega
                  subst hjs
                  omega)
              have h5 : ¬ wks[q][s] < 0 := by omega
              have h6 : ¬ 1000000 < wks[q][s] := by omega
              generalize wks[q][s] = z at *
              clear c3 hsq hbad
              go_wp2
              go_roundw
              case rel => exact ⟨q + 1, by omega, by go_num, HGZ.out, by first | trivial | rfl⟩
              case measure => simp [intOf]; omega
            · have HGW : Hid (∀ q, (h : q < wks.length) → ∀ j, (h : j < wks[q].length) → j < s + 1 → 0 ≤ wks[q][j] ∧ wks[q][j] ≤ 1000000) := Lib.hid (fun p hp j hj hjs => by
                rcases Nat.lt_or_ge j s with h | h
                · exact HB.out p hp j hj h
                · exact HC.out p hp (by omega) j hj (by omega))
              go_wp2
              go_roundw
              case rel => exact ⟨s + 1, by omega, by go_num, HGY.out, HGW.out, by first | trivial | rfl⟩
              case measure => simp [intOf]; omega
        · have e : r = 0 := by
            rw [← HR.out]
            exact form_ok H1.out HL.out (fun j hj => HA.out j hj (by have := H1.out; omega)) (fun q hq j hj => HB.out q hq j hj (by have := HL.out q hq; omega))
          subst e
          go_wp2
          go_ret
          exact ⟨rfl, Ext.refl _⟩
end Go.Proofs.YtlkbbcfbnbnagaaGreat
