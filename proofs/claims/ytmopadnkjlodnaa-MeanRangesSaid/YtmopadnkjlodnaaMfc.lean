/-
  Package mean: isSpan, fraction.
-/
import Derived.Test.YtmopadnkjlodnaaMbe
namespace Go.Proofs.Ytmopadnkjlodnaa
open Go.RowKit Go.BigFrame
attribute [local go_sem] Oper.semAt_some Later.cell Later.frozen
structure Spn where
  lo : Int
  hi : Int
def spnB (s : Spn) : Bool := decide (s.lo ≤ s.hi) && ins 0 1000000 [s.lo, s.hi]
def fracS (n d : Int) : Fra := ⟨n.tdiv (Int.gcd n d), d.tdiv (Int.gcd n d)⟩
set_option maxHeartbeats 4000000 in
theorem mean_isSpan (l h : Int) (w : World) : Calls Try.prog 62 #[.agg #[.int .i64 l, .int .i64 h]] w fun e w' => e = .returned (.bool (spnB ⟨l, h⟩)) ∧ Ext w w' := by
  obtain ⟨rb, hrb⟩ : ∃ c, spnB ⟨l, h⟩ = c := ⟨_, rfl⟩
  rw [hrb]
  have HRB := Lib.hid hrb
  clear hrb
  go_enter Try.func62, Try.ntmps62
  cases h1 : decide (l ≤ h)
  · have e : rb = false := by rw [← HRB.out]; simp [spnB, h1]
    have h1' : ¬ l ≤ h := by simpa using h1
    subst e
    go_wp2
    refine bodyPost_ret (v := .bool false) (by simp [results, Try.results62, go_sem]) rfl ⟨rfl, (Ext.refl w).alloc _⟩
  have h1' : l ≤ h := by simpa using h1
  go_wp2_with fail
  refine (mean_within_2 0 1000000 l h (w.alloc _) _ (by simp)).mono ?_
  rintro e w1 ⟨rfl, hx1⟩
  have HX := Lib.hid (((Ext.refl w).alloc _).trans hx1)
  have e : rb = ins 0 1000000 [l, h] := by rw [← HRB.out]; simp [spnB, h1']
  have HE := Lib.hid e
  clear hx1 e
  go_wp2
  refine bodyPost_ret (v := .bool rb) (by simp [results, Try.results62, go_sem, HE.out]) rfl ⟨rfl, HX.out⟩
theorem gcd_step {a b : Int} (ha : 0 ≤ a) (hb : 0 < b) : Int.gcd b (a.tmod b) = Int.gcd a b := by
  obtain ⟨a', rfl⟩ := Int.eq_ofNat_of_zero_le ha
  obtain ⟨b', rfl⟩ := Int.eq_ofNat_of_zero_le (Int.le_of_lt hb)
  show Nat.gcd b' (a' % b') = Nat.gcd a' b'
  rw [Nat.gcd_comm b', ← Nat.gcd_rec, Nat.gcd_comm]
theorem tmod_bounds {a b : Int} (ha : 0 ≤ a) (hb : 0 < b) : 0 ≤ a.tmod b ∧ a.tmod b < b := by
  rw [Int.tmod_eq_emod_of_nonneg ha]
  exact ⟨Int.emod_nonneg _ (by omega), Int.emod_lt_of_pos _ hb⟩
theorem tdiv_bounds {a b : Int} (ha : 0 ≤ a) (hb : 0 < b) : 0 ≤ a.tdiv b ∧ a.tdiv b ≤ a := by
  rw [Int.tdiv_eq_ediv_of_nonneg ha]
  exact ⟨Int.ediv_nonneg ha (by omega), Int.ediv_le_self _ ha⟩
set_option maxRecDepth 100000 in
set_option maxHeartbeats 4000000 in
theorem mean_fraction (n d : Int) (w : World) (hn : 0 ≤ n ∧ n ≤ 3000000) (hd : 0 < d ∧ d ≤ 1000000) : Calls Try.prog 63 #[.int .i64 n, .int .i64 d] w fun e w' => e = .returned (fracS n d).agg ∧ Ext w w' := by
  go_enter Try.func63, Try.ntmps63
  go_wp2
  obtain ⟨w1, hw1⟩ : ∃ y, y = w.alloc (.cells #[.int .i64 0, .int .i64 0] 57) := ⟨_, rfl⟩
  rw [← hw1]
  have HX1 : Hid (Ext w w1) := Lib.hid (by rw [hw1]; exact (Ext.refl w).alloc _)
  have HB1 : Hid (Blk w1 w.heap.size #[.int .i64 0, .int .i64 0]) := Lib.hid (by rw [hw1]; exact Blk.new _ _ _)
  have HN := Lib.hid hn
  have HD := Lib.hid hd
  clear hw1 hn hd
  go_loopw [5, 6] (fun a b wr => ∃ x y : Int, a = .int .i64 x ∧ b = .int .i64 y ∧ (0 ≤ x ∧ x ≤ 3000000) ∧ (0 ≤ y ∧ y ≤ 1000000) ∧ (0 < x ∨ 0 < y) ∧ Int.gcd x y = Int.gcd n d ∧ Ext w1 wr) (fun _ b _ => (intOf b).toNat)
  case atStart => exact ⟨n, d, rfl, rfl, HN.out, ⟨by have := HD.out; omega, HD.out.2⟩, .inr HD.out.1, rfl, Ext.refl w1⟩
  case round =>
    obtain ⟨x, y, rfl, rfl, hx, hy, hp, hg, hw⟩ := hrel
    have HXX := Lib.hid hx
    have HYY := Lib.hid hy
    have HPP := Lib.hid hp
    have HGG := Lib.hid hg
    have HWW := Lib.hid hw
    clear hx hy hp hg hw
    by_cases hlt : 0 < y
    · have h0 : ¬ y = 0 := by omega
      go_upto_region 3 with fail
      refine wp_region_later (by kernel_rfl) (by kernel_rfl) ?_
      repeat (go_big_quiet_step (fail))
      refine wpQuiet_nil ?_
      intro w3 hw3
      obtain ⟨⟨w3, hx3⟩, rfl⟩ := hw3
      have HX3 := Lib.hid (HWW.out.trans hx3)
      clear hx3
      go_wp2
      go_roundw
      case rel =>
        have hb := tmod_bounds HXX.out.1 hlt
        have := HYY.out
        exact ⟨y, _, rfl, rfl, ⟨by omega, by omega⟩, ⟨hb.1, by omega⟩, .inl hlt, (gcd_step HXX.out.1 hlt).trans HGG.out, HX3.out⟩
      case measure =>
        have hb := tmod_bounds HXX.out.1 hlt
        simp [intOf]
        omega
    · have hy0 : y = 0 := by have := HYY.out; omega
      have hx0 : 0 < x := by have := HPP.out; omega
      have hne : ¬ x = 0 := by omega
      have hgx : (Int.gcd n d : Int) = x := by
        rw [← HGG.out, hy0, Int.gcd_zero_right]
        omega
      have hv : (fracS n d).agg = .agg #[.int .i64 (n.tdiv x), .int .i64 (d.tdiv x)] := by unfold fracS Fra.agg; simp only; rw [hgx]
      have hb1 := tdiv_bounds HN.out.1 hx0
      have hb2 := tdiv_bounds (Int.le_of_lt HD.out.1) hx0
      have hi1 : wrap64 (n.tdiv x) = n.tdiv x := wrap64_in' ⟨by omega, by have := HN.out; omega⟩
      have hi2 : wrap64 (d.tdiv x) = d.tdiv x := wrap64_in' ⟨by omega, by have := HD.out; omega⟩
      have HV := Lib.hid hv
      have HBR := Lib.hid (HB1.out.ext HWW.out)
      have HXF := Lib.hid (HX1.out.trans HWW.out)
      clear hb1 hb2 hgx hv hx0 hy0
      have HI1 := Lib.hid hi1
      have HI2 := Lib.hid hi2
      clear hi1 hi2
      obtain ⟨KB, hK⟩ : ∃ y, y = w.heap.size := ⟨_, rfl⟩
      rw [← hK] at HBR ⊢
      have HK := Lib.hid hK
      have hk7 : ∀ k : Nat, (k == 7) = true → k < 8 := by
        intro k hk
        have : k = 7 := by simpa using hk
        omega
      clear hK
      go_upto_region 4 with fail
      refine wp_region_lat (by kernel_rfl) (fun b _ => b = KB) (fun k => k == 7) (fun _ _ => True) (fun L _ W => bif L 7 then Blk W KB #[.int .i64 (wrap64 (n.tdiv x)), .int .i64 (wrap64 (d.tdiv x))] else Blk W KB #[.int .i64 0, .int .i64 0]) (by kernel_rfl) (fun k hk => hk7 k hk)
        (fun L L' u w' h hg => by have e := h 7 rfl; show (bif L' 7 then _ else _); rw [e]; exact hg) (fun L u a b h hx => by revert h; show (bif L 7 then _ else _) → (bif L 7 then _ else _); cases L 7 <;> exact fun h => Blk.ext h hx) (fun _ => undef) (fun _ _ => trivial) (HBR.out.ext (Ext.refl wr).drew) ?_
      intro T hT hne2 u hu
      clear hu
      refine lx_next 7 (by rfl) (by decide) ?_
      dsimp only [List.take, List.drop]
      repeat (go_big_quiet_step (fail))
      refine wpQuiet_nil ?_
      refine lx_loud (by rfl) (by kernel_rfl) ?_ (fun K hK => ?_)
      · intro L w4 hL hd hcl hC hs
        obtain ⟨y, rfl⟩ := hC
        simp only [hL, cond_false] at hs
        have r0 := hs.cell 0 (v := .int .i64 0) rfl
        have r1 := hs.cell 1 (v := .int .i64 0) rfl
        have rf0 := hs.frozen 0
        have rf1 := hs.frozen 1
        have rl := hs.lt
        have HS := Lib.hid hs
        clear hs
        go_wp2
        exact ⟨⟨y.chgd (two_chg (· = KB) y.world rfl _ _) (fun k hk => .inr fun _ => hk), rfl⟩, two_set HS.out _ _⟩
      go_simp
      with_reducible refine hK _ ?_
      clear hK K
      refine lx_nil ?_
      intro y hs
      simp only [cond_true] at hs
      have r0 := hs.cell 0 (v := .int .i64 (wrap64 (n.tdiv x))) rfl
      have r1 := hs.cell 1 (v := .int .i64 (wrap64 (d.tdiv x))) rfl
      have HC : Hid (Ext w y.world) := Lib.hid (Chg.to_ext HXF.out (y.chg.mono (T := (· = KB)) (by rintro q - ⟨_, e⟩; exact e)) (by rintro i rfl; rw [HK.out]; exact Nat.le_refl _))
      clear hs hT hne2
      generalize y.world = w9 at *
      go_wp2
      refine bodyPost_ret (v := .agg #[.int .i64 (wrap64 (n.tdiv x)), .int .i64 (wrap64 (d.tdiv x))]) (by simp [results, Try.results63, go_sem, r0, r1]) rfl ⟨by rw [HV.out, HI1.out, HI2.out], HC.out⟩
end Go.Proofs.Ytmopadnkjlodnaa
