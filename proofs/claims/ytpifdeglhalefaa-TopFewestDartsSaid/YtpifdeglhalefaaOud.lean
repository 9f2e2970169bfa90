/-
  Package out: the beds that are not bust, one after another.
-/
import Derived.Test.YtpifdeglhalefaaOuc
import Derived.Test.YtpifdeglhalefaaKcp
import Derived.Test.YtpifdeglhalefaaRci
import Derived.Sort.CutIn
import Derived.Laws.EntriesVeiled
namespace Go.Proofs.Ytpifdeglhalefaa
open Go.RowKit
attribute [local go_sem] Oper.semAt_some
set_option maxHeartbeats 1000000 in
theorem out_throws (B : Nat) (s : Int) (w : World) : Calls Try.prog 41 #[.pointer (some ⟨B, 0, none⟩), .int .i64 s] w fun e w' => ∃ kp ks, e = .returned (.func (.func 70) #[] #[.pointer (some ⟨kp, 0, none⟩), .pointer (some ⟨ks, 0, none⟩)]) ∧ (w.heap.size ≤ kp ∧ w.heap.size ≤ ks) ∧ Blk w' kp #[.pointer (some ⟨B, 0, none⟩)] ∧ Blk w' ks #[.int .i64 s] ∧ Ext w w' := by
  go_enter Try.func41, Try.ntmps41
  go_wp2
  go_ret
  exact ⟨w.heap.size, w.heap.size + 1, rfl, ⟨Nat.le_refl _, Nat.le_succ _⟩, (Blk.new w _ _).ext ((Ext.refl _).alloc _), by have h := Blk.new (w.alloc (.cells #[.pointer (some ⟨B, 0, none⟩)] 119)) #[.int .i64 s] 3; simpa using h, ((Ext.refl w).alloc _).alloc _⟩
theorem enters_throws1 : Enters Try.prog 70 := enters_of Try.func70 (by kernel_rfl) rfl
/-- What bed and score an iterator hands on. -/
theorem thwO_mem {g : Int} {beds : List Int} {s : Int} {p : Int × Int} (h : p ∈ thwO g beds s) : p.1 ∈ beds ∧ p.2 = s - wrt p.1 ∧ aftB g s p.1 = true ∧ 0 < s := by
  obtain ⟨x, hx, rfl⟩ := List.mem_map.1 h
  obtain ⟨h1, h2⟩ := List.mem_filter.1 hx
  simp only [Bool.and_eq_true, decide_eq_true_eq] at h2
  exact ⟨h1, rfl, h2.1, h2.2⟩
theorem thwO_snoc (g : Int) (l : List Int) (x : Int) (s : Int) : thwO g (l ++ [x]) s = thwO g l s ++ (if (aftB g s x && decide (0 < s)) = true then [(x, s - wrt x)] else []) := by
  unfold thwO
  rw [List.filter_append, List.map_append, List.filter_cons]
  split <;> rfl
set_option maxRecDepth 100000 in
set_option maxHeartbeats 4000000 in
theorem throws_seq (S : Nat → Prop) (n' : Nat) (B kp ks : Nat) (g s : Int) (v2 : Value) (beds : List Int) (ba : Option Addr) (bc : Nat) (w : World) (hS : ¬ S B ∧ ¬ S kp ∧ ¬ S ks) (hSw : ∀ k, S k → k < w.heap.size) (hB : Blk w B #[.slice ba beds.length bc, .int .i64 g, v2]) (hkp : Blk w kp #[.pointer (some ⟨B, 0, none⟩)]) (hks : Blk w ks #[.int .i64 s]) (hR : RdI S w (.slice ba beds.length bc) beds) (hl : beds.length ≤ 1000) (hi : ∀ x ∈ beds, I64 x ∧ I64 (s - wrt x)) :
    SeqB n' Try.prog 70 #[] #[.pointer (some ⟨kp, 0, none⟩), .pointer (some ⟨ks, 0, none⟩)] (fun p : Int × Int => #[.agg #[.int .i64 p.1], .int .i64 p.2]) (fun _ p _ => p ∈ thwO g beds s) (Kc S) (fun xs => xs = thwO g beds s) w := by
  intro l J W hxw hJ hY h0
  have HR := Lib.hid (hR.keep (Kc.of_ext hxw))
  have HB := Lib.hid (hB.ext hxw)
  have HKP := Lib.hid (hkp.ext hxw)
  have HKS := Lib.hid (hks.ext hxw)
  have HS := Lib.hid hS
  have HSW : Hid (∀ k, S k → k < W.heap.size) := Lib.hid (fun k hk => Nat.lt_of_lt_of_le (hSw k hk) hxw.size)
  have HY := Lib.hid hY
  have HJ := Lib.hid h0
  have HJA := Lib.hid hJ
  have HI := Lib.hid hi
  clear hR hY h0 hxw hJ hB hkp hks hS hSw hi
  refine callsIn_of_wp Try.func70 rfl trivial ?_ rfl
  simp only [Try.ntmps70, List.size_toArray, List.length_cons, List.length_nil, Nat.reduceAdd, Nat.reduceSub, Array.replicate_succ, Array.replicate_zero, List.push_toArray, List.append_toArray, List.nil_append, List.cons_append]
  have b0 := HB.out.cell 0 (v := .slice ba beds.length bc) rfl
  have bl := HB.out.lt
  have p0 := HKP.out.cell 0 (v := .pointer (some ⟨B, 0, none⟩)) rfl
  have pl := HKP.out.lt
  gi_wp2
  gi_loopw [13] (fun i wr => ∃ k : Nat, k ≤ beds.length ∧ i = .int .i64 k ∧ J (thwO g (beds.take k) s) wr ∧ Kc S W wr) (fun i _ => beds.length - (intOf i).toNat)
  case atStart => exact ⟨0, Nat.zero_le _, rfl, HJ.out, Kc.refl _ _⟩
  case round =>
    obtain ⟨k, hk, rfl, hj, hkc⟩ := hrel
    have HJK := Lib.hid hj
    have HKC := Lib.hid hkc
    by_cases hlt : k < beds.length
    · have HRW : Hid (CellsAt wr .i64 ba beds) := Lib.hid (by
        obtain ⟨_, _, e, h2, -⟩ := (HR.out.keep hkc).cells
        cases e
        exact h2)
      obtain ⟨bb, bo, e, c0⟩ := HRW.out k hlt
      subst e
      have c1 := lt_of_cell c0
      simp only at c1
      have HT := Lib.hid (List.take_succ_eq_append_getElem hlt)
      have hix := HI.out _ (List.getElem_mem hlt)
      have HMX := Lib.hid (List.getElem_mem hlt)
      obtain ⟨x, hx⟩ : ∃ y, beds[k] = y := ⟨_, rfl⟩
      rw [hx] at c0 HT hix HMX
      have HIX := Lib.hid hix
      have hkc0 := hkc
      clear hx hix hj hkc b0 bl p0 pl
      have HBK := Lib.hid (hkc0.blk HB.out HS.out.1)
      have HPK := Lib.hid (hkc0.blk HKP.out HS.out.2.1)
      have HSK := Lib.hid (hkc0.blk HKS.out HS.out.2.2)
      clear hkc0
      gi_upto_region 3 with fail
      obtain ⟨k5, hk5⟩ : ∃ y, y = wr.heap.size := ⟨_, rfl⟩
      obtain ⟨w1, hw1⟩ : ∃ y, y = wr.alloc (.cells #[.int .i64 x] 124) := ⟨_, rfl⟩
      rw [← hw1, ← hk5]
      have hx1 : Ext wr w1 := by rw [hw1]; exact (Ext.refl wr).alloc _
      have HX5 : Hid (Blk w1 k5 #[.int .i64 x]) := Lib.hid (by rw [hw1, hk5]; exact Blk.new _ _ _)
      have HJ1 : Hid (J (thwO g (beds.take k) s) w1) := Lib.hid (HJA.out _ _ _ none HJK.out hx1.to_grown (fun r e => by cases e))
      have HX1 := Lib.hid hx1
      clear hw1 hx1 hk5 c0 c1
      have p0 := (HPK.out.ext HX1.out).cell 0 (v := .pointer (some ⟨B, 0, none⟩)) rfl
      have pl := (HPK.out.ext HX1.out).lt
      have s0 := (HSK.out.ext HX1.out).cell 0 (v := .int .i64 s) rfl
      have sl := (HSK.out.ext HX1.out).lt
      have x0 := HX5.out.cell 0 (v := .int .i64 x) rfl
      have xl := HX5.out.lt
      have HAF := Lib.hid (out_after B (.slice (some ⟨bb, bo, none⟩) beds.length bc) v2 g s x w1 (HBK.out.ext HX1.out) HIX.out.1 HIX.out.2)
      gi_wp2_with fail
      refine ⟨trivial, fun h => (by cases h), (callsIn_wide.2 HAF.out).mono ?_⟩
      rintro e w2 ⟨rfl, hx2⟩
      have HX2 := Lib.hid (HX1.out.trans hx2)
      have HJ2 : Hid (J (thwO g (beds.take k) s) w2) := Lib.hid (HJA.out _ _ _ none HJ1.out hx2.to_grown (fun r e => by cases e))
      have HK2 : Hid (Kc S W w2) := Lib.hid (HKC.out.ext HX2.out)
      have s0 := (HSK.out.ext HX2.out).cell 0 (v := .int .i64 s) rfl
      have sl := (HSK.out.ext HX2.out).lt
      have x0 := (HX5.out.ext hx2).cell 0 (v := .int .i64 x) rfl
      have xl := (HX5.out.ext hx2).lt
      have HTW := Lib.hid (thwO_snoc g (beds.take k) x s)
      clear hx2 p0 pl HAF
      obtain ⟨af, haf⟩ : ∃ y, aftB g s x = y := ⟨_, rfl⟩
      have HAB := Lib.hid haf
      rw [haf] at HTW ⊢
      clear haf
      by_cases hs0 : 0 < s
      · cases af
        · gi_wp2
          refine ⟨fun f h => (by cases h), ?_⟩
          gi_wp2
          go_roundw
          case rel => exact ⟨k + 1, by omega, by go_num, by rw [HT.out, HTW.out]; simpa using HJ2.out, HK2.out⟩
          case measure => simp [intOf]; omega
        · obtain ⟨f1, t1, a1', b1', hy1, hR1⟩ := HY.out _ (x, s - wrt x) w2 HJ2.out (by
            unfold thwO
            exact List.mem_map.2 ⟨x, List.mem_filter.2 ⟨HMX.out, by rw [HAB.out, decide_eq_true hs0]; rfl⟩, rfl⟩)
          dsimp only at hy1
          gi_wp2
          refine ⟨fun h => (by cases h), hR1.mono ?_⟩
          rintro e w3 ⟨rfl, hj3, hk3⟩
          have HJ3 := Lib.hid hj3
          have HK3 := Lib.hid (HK2.out.trans hk3)
          clear hj3 hk3 hy1 hR1
          gi_wp2
          go_roundw
          case rel => exact ⟨k + 1, by omega, by go_num, by rw [HT.out, HTW.out, decide_eq_true hs0]; exact HJ3.out, HK3.out⟩
          case measure => simp [intOf]; omega
      · cases af
        · gi_wp2
          refine ⟨fun f h => (by cases h), ?_⟩
          gi_wp2
          go_roundw
          case rel => exact ⟨k + 1, by omega, by go_num, by rw [HT.out, HTW.out]; simpa using HJ2.out, HK2.out⟩
          case measure => simp [intOf]; omega
        · gi_wp2
          refine ⟨fun f h => (by cases h), ?_⟩
          gi_wp2
          go_roundw
          case rel => exact ⟨k + 1, by omega, by go_num, by rw [HT.out, HTW.out, decide_eq_false (by omega)]; simpa using HJ2.out, HK2.out⟩
          case measure => simp [intOf]; omega
    · obtain rfl : beds.length = k := by omega
      have HJ3 := Lib.hid (show J (thwO g beds s) wr by rw [List.take_length] at hj; exact hj)
      clear hj hkc b0 bl p0 pl
      gi_wp2
      refine bodyPost_end (results_none rfl _ _ _) rfl ⟨⟨_, rfl⟩, _, rfl, HJ3.out⟩
end Go.Proofs.Ytpifdeglhalefaa
