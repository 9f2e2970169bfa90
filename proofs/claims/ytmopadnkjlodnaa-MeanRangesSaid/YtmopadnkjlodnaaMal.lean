/-
  Package mean: a miss and all beds, one after another.
-/
import Derived.Test.YtmopadnkjlodnaaKcp
import Derived.Test.YtmopadnkjlodnaaMeanD
import Derived.Sort.CutIn
namespace Go.Proofs.Ytmopadnkjlodnaa
open Go.RowKit
attribute [local go_sem] Oper.semAt_some
theorem enters_all : Enters Try.prog 81 := enters_of Try.func81 (by kernel_rfl) rfl
set_option maxRecDepth 100000 in
set_option maxHeartbeats 4000000 in
theorem all_seq (n' : Nat) (start gin gout : Int) (beds : List Int) (ba : Option Addr) (bc : Nat) (w : World) (hR : RdI S0 w (.slice ba beds.length bc) beds) (hl : beds.length ≤ 1000) :
    SeqB n' Try.prog 81 #[.agg #[.int .i64 start, .int .i64 gin, .int .i64 gout, .slice ba beds.length bc]] #[] (fun x : Int => #[.int .i64 x]) (fun _ x _ => x = 0 ∨ x ∈ beds) (Kc S0) (fun xs => xs = 0 :: beds) w := by
  intro l J W hxw hJ hY h0
  have HR := Lib.hid (hR.ext hxw)
  have HY := Lib.hid hY
  have HJ := Lib.hid h0
  have HJA := Lib.hid hJ
  clear hR hY h0 hxw hJ
  refine callsIn_of_wp Try.func81 rfl trivial ?_ rfl
  simp only [Try.ntmps81, List.size_toArray, List.length_cons, List.length_nil, Nat.reduceAdd, Nat.reduceSub, Array.replicate_succ, Array.replicate_zero, List.push_toArray, List.append_toArray, List.nil_append, List.cons_append]
  have hx1 : Ext W (W.alloc (.cells #[.int .i64 start, .int .i64 gin, .int .i64 gout, .slice ba beds.length bc] 101)) := (Ext.refl W).alloc _
  have HB1 : Hid (Blk (W.alloc (.cells #[.int .i64 start, .int .i64 gin, .int .i64 gout, .slice ba beds.length bc] 101)) W.heap.size #[.int .i64 start, .int .i64 gin, .int .i64 gout, .slice ba beds.length bc]) := Lib.hid (Blk.new _ _ _)
  have hj1 := HJA.out _ _ _ none HJ.out hx1.to_grown (fun r e => by cases e)
  obtain ⟨f1, t1, a1', b1', hy1, hR1⟩ := HY.out [] 0 _ hj1 (.inl rfl)
  have HX1 := Lib.hid hx1
  clear hx1 hj1
  gi_wp2
  refine ⟨fun h => (by cases h), hR1.mono ?_⟩
  rintro e w2 ⟨rfl, hj2, hk2⟩
  have HJ2 := Lib.hid hj2
  have HB2 := Lib.hid (hk2.blk HB1.out id)
  have HR2 := Lib.hid ((HR.out.ext HX1.out).keep hk2)
  have c3 := HB2.out.cell 3 (v := .slice ba beds.length bc) rfl
  have hbl := HB2.out.lt
  clear hj2 hk2 hy1 hR1 HB1
  gi_wp2
  gi_loopw [12] (fun i wr => ∃ k : Nat, k ≤ beds.length ∧ i = .int .i64 k ∧ J (0 :: beds.take k) wr ∧ Kc S0 w2 wr) (fun i _ => beds.length - (intOf i).toNat)
  case atStart => exact ⟨0, Nat.zero_le _, rfl, HJ2.out, Kc.refl _ _⟩
  case round =>
    obtain ⟨k, hk, rfl, hj, hkc⟩ := hrel
    have HJK := Lib.hid hj
    have HKC := Lib.hid hkc
    by_cases hlt : k < beds.length
    · obtain ⟨bb, bo, e, c0⟩ := (rd_cells (HR2.out.keep hkc)).2 k hlt
      subst e
      have c1 := lt_of_cell c0
      simp only at c1
      have HT := Lib.hid (List.take_succ_eq_append_getElem hlt)
      obtain ⟨f1, t1, a1', b1', hy1, hR1⟩ := HY.out _ beds[k] _ hj (.inr (List.getElem_mem hlt))
      generalize beds[k] = x at *
      clear hj hkc c3
      gi_wp2
      refine ⟨fun h => (by cases h), hR1.mono ?_⟩
      rintro e w3 ⟨rfl, hj3, hk3⟩
      have HJ3 := Lib.hid hj3
      have HK3 := Lib.hid (HKC.out.trans hk3)
      clear hj3 hk3 hy1 hR1
      gi_wp2
      go_roundw
      case rel => exact ⟨k + 1, by omega, by go_num, by rw [HT.out]; exact HJ3.out, HK3.out⟩
      case measure => simp [intOf]; omega
    · obtain rfl : beds.length = k := by omega
      have HJ3 := Lib.hid (show J (0 :: beds) wr by rw [List.take_length] at hj; exact hj)
      clear hj hkc c3
      gi_wp2
      refine bodyPost_end (results_none rfl _ _ _) rfl ⟨⟨_, rfl⟩, _, rfl, HJ3.out⟩
end Go.Proofs.Ytmopadnkjlodnaa
