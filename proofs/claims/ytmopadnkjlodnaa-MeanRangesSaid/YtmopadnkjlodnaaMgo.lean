/-
  Package mean: the stand and the goal of each visit of a leg, one after another.
-/
import Derived.Test.YtmopadnkjlodnaaRfw
import Derived.Test.YtmopadnkjlodnaaMfr
namespace Go.Proofs.Ytmopadnkjlodnaa
open Go.RowKit
attribute [local go_sem] Oper.semAt_some
structure Sg where
  s : Sd
  g : Gl
def stT (start : Int) (scores : List Int) : Nat → Sd
  | 0 => ⟨start, false⟩
  | k + 1 => ⟨wrap64 ((stT start scores k).left - scores.getD k 0), (stT start scores k).inn || decide (0 < scores.getD k 0)⟩
def gAt (start : Int) (scores : List Int) (won : Bool) (k : Nat) : Sg := ⟨stT start scores k, ⟨scores.getD k 0, won && decide (k + 1 = scores.length)⟩⟩
def goT (start : Int) (scores : List Int) (won : Bool) (k : Nat) : List Sg := (List.range k).map (gAt start scores won)
theorem goT_succ (start : Int) (scores : List Int) (won : Bool) (k : Nat) : goT start scores won (k + 1) = goT start scores won k ++ [gAt start scores won k] := by
  unfold goT; rw [List.range_succ, List.map_append]; rfl
theorem enters_goals1 : Enters Try.prog 79 := enters_of Try.func79 (by kernel_rfl) rfl
set_option maxRecDepth 100000 in
set_option maxHeartbeats 4000000 in
theorem goals_seq (S : Nat → Prop) (n' : Nat) (start gin gout : Int) (vb : Value) (scores : List Int) (sa : Option Addr) (sc : Nat) (won : Bool) (B1 : Nat) (w : World) (hv : ∃ a n c, vb = .slice a n c) (hB : Blk w B1 #[.int .i64 start, .int .i64 gin, .int .i64 gout, vb, .slice sa scores.length sc, .bool won]) (hR : RdI S w (.slice sa scores.length sc) scores) (hl : scores.length ≤ 1000) (hS : ∀ k, S k → k < w.heap.size ∨ w.heap.size + 3 ≤ k) (hSB : ¬ S B1) :
    SeqW n' Try.prog 79 #[] #[.pointer (some ⟨B1, 0, none⟩)] (fun x : Sg => #[x.s.agg, x.g.agg]) (fun pre x W => (∃ k, k < scores.length ∧ pre = goT start scores won k ∧ x = gAt start scores won k) ∧ w.heap.size + 3 ≤ W.heap.size) (Kc S) (fun xs => xs = goT start scores won scores.length) (fun _ => True) 1 w := by
  obtain ⟨va, vn, vc, rfl⟩ := hv
  intro l J Jx W hxw hsz hJ hJx hY h0
  have HSZ := Lib.hid hsz
  have HR : Hid (RdI (fun k => k = W.heap.size ∨ S k) W (.slice sa scores.length sc) scores) := Lib.hid (by
    rcases hR.keep (Kc.of_ext hxw) with h | ⟨b, o, c, cs, t, f, h1, h2, h3, h4, h5, h6⟩
    · exact .inl h
    · refine .inr ⟨b, o, c, cs, t, f, h1, h2, h3, ?_, h5, h6⟩
      rintro (e | e)
      · have := (Array.getElem?_eq_some_iff.1 h5).1
        omega
      · exact h4 e)
  have HSB := Lib.hid hSB
  have HSK : Hid (¬ S W.heap.size) := Lib.hid (fun h => by rcases hS _ h with h | h <;> omega)
  have HB := Lib.hid (hB.ext hxw)
  have HY := Lib.hid hY
  have HJ := Lib.hid h0
  have HJA := Lib.hid hJ
  clear hR hY h0 hJ hJx hB hxw hsz hS hSB
  refine callsIn_of_wp Try.func79 rfl trivial ?_ rfl
  simp only [Try.ntmps79, List.size_toArray, List.length_cons, List.length_nil, Nat.reduceAdd, Nat.reduceSub, Array.replicate_succ, Array.replicate_zero, List.push_toArray, List.append_toArray, List.nil_append, List.cons_append]
  have b0 := HB.out.cell 0 (v := .int .i64 start) rfl
  have b4 := HB.out.cell 4 (v := .slice sa scores.length sc) rfl
  have bl := HB.out.lt
  gi_upto_region 2 with fail
  obtain ⟨K3, hk3⟩ : ∃ y, y = W.heap.size := ⟨_, rfl⟩
  obtain ⟨w1, hw1⟩ : ∃ y, y = W.alloc (.cells #[.int .i64 start, .bool false] 119) := ⟨_, rfl⟩
  rw [← hw1, ← hk3]
  have hx1 : Ext W w1 := by rw [hw1]; exact (Ext.refl W).alloc _
  have HB3 : Hid (Blk w1 K3 #[.int .i64 start, .bool false]) := Lib.hid (by rw [hw1, hk3]; exact Blk.new _ _ _)
  have HX1 := Lib.hid hx1
  have HK3 := Lib.hid hk3
  have HJ1 : Hid (J (goT start scores won 0) w1) := Lib.hid (by rw [hw1]; exact HJA.out.alloc _ HJ.out)
  clear hw1 hx1 hk3 b0 b4 bl
  gi_loopw [13] (fun i wr => ∃ k : Nat, k ≤ scores.length ∧ i = .int .i64 k ∧ J (goT start scores won k) wr ∧ Blk wr K3 #[.int .i64 (stT start scores k).left, .bool (stT start scores k).inn] ∧ Kc (fun k => k = K3 ∨ S k) w1 wr) (fun i _ => scores.length - (intOf i).toNat)
  case atStart => exact ⟨0, Nat.zero_le _, rfl, HJ1.out, HB3.out, Kc.refl _ _⟩
  case round =>
    obtain ⟨k, hk, rfl, hj, hb3, hkc⟩ := hrel
    have HJK := Lib.hid hj
    have HKC := Lib.hid hkc
    have HBK := Lib.hid hb3
    have hne : ¬ (B1 = K3) := by have := HB.out.lt; have := HK3.out; omega
    have HBB : Hid (Blk wr B1 _) := Lib.hid (hkc.blk (HB.out.ext HX1.out) (by rintro (e | e); exact hne e; exact HSB.out e))
    by_cases hlt : k < scores.length
    · have HRW : Hid (CellsAt wr .i64 sa scores) := Lib.hid (by
        have h1 := HR.out
        rw [← HK3.out] at h1
        obtain ⟨_, _, e, h2, -⟩ := ((h1.keep (Kc.of_ext HX1.out)).keep hkc).cells
        cases e
        exact h2)
      obtain ⟨bb, bo, e, c0⟩ := HRW.out k hlt
      subst e
      have c1 := lt_of_cell c0
      simp only at c1
      have hgd : scores.getD k 0 = scores[k] := by simp [hlt]
      obtain ⟨wb, hwb⟩ : ∃ b, decide (k + 1 = scores.length) = b := ⟨_, rfl⟩
      have hs1 : (gAt start scores won k).s.agg = .agg #[.int .i64 (stT start scores k).left, .bool (stT start scores k).inn] := rfl
      have hg1 : (gAt start scores won k).g.agg = .agg #[.int .i64 scores[k], .bool (won && wb)] := by unfold gAt Gl.agg; simp only; rw [hgd, hwb]
      obtain ⟨f1, t1, a1', b1', hy1, hR1⟩ := HY.out _ _ wr hj ⟨⟨k, hlt, rfl, rfl⟩, by have h1 := HB3.out.lt; have h2 := HK3.out; have h3 := hkc.size; have h4 := HSZ.out; omega⟩
      rw [hs1, hg1] at hy1
      have HNX : Hid (stT start scores (k + 1) = ⟨wrap64 ((stT start scores k).left - scores[k]), (stT start scores k).inn || decide (0 < scores[k])⟩) := Lib.hid (by show (⟨_, _⟩ : Sd) = _; rw [hgd])
      have hwn : wrap64 ((scores.length : Int) - 1) = (scores.length : Int) - 1 := wrap64_in' ⟨by omega, by omega⟩
      have heq : ((k : Int) == (scores.length : Int) - 1) = wb := by
        rw [← hwb]
        by_cases h : k + 1 = scores.length
        · rw [decide_eq_true h]; simp; omega
        · rw [decide_eq_false h]; simp; omega
      have HGS := Lib.hid (goT_succ start scores won k)
      have b4 := HBB.out.cell 4 (v := .slice (some ⟨bb, bo, none⟩) scores.length sc) rfl
      have b5 := HBB.out.cell 5 (v := .bool won) rfl
      have bl := HBB.out.lt
      generalize scores[k] = x at *
      generalize (stT start scores k).left = L at *
      generalize (stT start scores k).inn = I at *
      have p0 := HBK.out.cell 0 (v := .int .i64 L) rfl
      have p1 := HBK.out.cell 1 (v := .bool I) rfl
      have pl := HBK.out.lt
      clear hj hkc hb3 hgd hs1 hg1 hwb
      cases won
      case true =>
        simp only [Bool.true_and] at hy1
        gi_wp2
        refine ⟨fun h => (by cases h), hR1.mono ?_⟩
        rintro e w3 (⟨rfl, hj3, hk3⟩ | ⟨rfl, hjx⟩)
        · have hb3 := hk3.blk HBK.out (by rw [HK3.out]; exact HSK.out)
          have HSET : Hid (∀ v0 v1, J (goT start scores true (k + 1)) ((w3.setCell ⟨K3, 0, none⟩ v0).setCell ⟨K3, 1, none⟩ v1) ∧ Blk ((w3.setCell ⟨K3, 0, none⟩ v0).setCell ⟨K3, 1, none⟩ v1) K3 #[v0, v1] ∧ Kc (fun k => k = K3 ∨ S k) w1 ((w3.setCell ⟨K3, 0, none⟩ v0).setCell ⟨K3, 1, none⟩ v1)) := Lib.hid (fun v0 v1 => by
            have hc := two_chg (· = K3) w3 (b := K3) rfl v0 v1
            refine ⟨?_, two_set hb3 v0 v1, (HKC.out.trans ⟨hk3.size, fun k cs t f h hn => hk3.keep k cs t f h (fun e => hn (.inr e))⟩).trans (.of_chg (hc.mono (fun _ _ h => .inl h)))⟩
            rw [HGS.out]
            exact HJA.out _ w3 _ (some K3) hj3 ⟨hc.os, hc.tape, hc.output, hc.size, fun k hk hne => hc.block k hk (fun e => hne (by rw [show k = K3 from e]))⟩ (by rintro r ⟨⟩; have := HK3.out; omega))
          have r0 := hb3.cell 0 (v := .int .i64 L) rfl
          have r1 := hb3.cell 1 (v := .bool I) rfl
          have rl := hb3.lt
          have rf0 := hb3.frozen 0
          have rf1 := hb3.frozen 1
          clear hj3 hk3 hb3 hy1 hR1 p0 p1 pl b4 b5 bl c0 c1
          cases I
          case true =>
            gi_wp2
            go_roundw
            case rel => exact ⟨k + 1, by omega, by go_num, (HSET.out _ _).1, by rw [HNX.out]; simpa using (HSET.out _ _).2.1, (HSET.out _ _).2.2⟩
            case measure => simp [intOf]; omega
          case false =>
            gi_wp2
            go_roundw
            case rel => exact ⟨k + 1, by omega, by go_num, (HSET.out _ _).1, by rw [HNX.out]; simpa using (HSET.out _ _).2.1, (HSET.out _ _).2.2⟩
            case measure => simp [intOf]; omega
        · have HJX := Lib.hid hjx
          clear hjx hy1 hR1 p0 p1 pl b4 b5 bl c0 c1
          gi_wp2
          refine bodyPost_ret (by simp [results, Try.results79, go_sem]; try rfl) rfl ⟨⟨_, rfl⟩, .inr ⟨_, trivial, HJX.out⟩⟩
      case false =>
        simp only [Bool.false_and] at hy1
        gi_wp2
        refine ⟨fun h => (by cases h), hR1.mono ?_⟩
        rintro e w3 (⟨rfl, hj3, hk3⟩ | ⟨rfl, hjx⟩)
        · have hb3 := hk3.blk HBK.out (by rw [HK3.out]; exact HSK.out)
          have HSET : Hid (∀ v0 v1, J (goT start scores false (k + 1)) ((w3.setCell ⟨K3, 0, none⟩ v0).setCell ⟨K3, 1, none⟩ v1) ∧ Blk ((w3.setCell ⟨K3, 0, none⟩ v0).setCell ⟨K3, 1, none⟩ v1) K3 #[v0, v1] ∧ Kc (fun k => k = K3 ∨ S k) w1 ((w3.setCell ⟨K3, 0, none⟩ v0).setCell ⟨K3, 1, none⟩ v1)) := Lib.hid (fun v0 v1 => by
            have hc := two_chg (· = K3) w3 (b := K3) rfl v0 v1
            refine ⟨?_, two_set hb3 v0 v1, (HKC.out.trans ⟨hk3.size, fun k cs t f h hn => hk3.keep k cs t f h (fun e => hn (.inr e))⟩).trans (.of_chg (hc.mono (fun _ _ h => .inl h)))⟩
            rw [HGS.out]
            exact HJA.out _ w3 _ (some K3) hj3 ⟨hc.os, hc.tape, hc.output, hc.size, fun k hk hne => hc.block k hk (fun e => hne (by rw [show k = K3 from e]))⟩ (by rintro r ⟨⟩; have := HK3.out; omega))
          have r0 := hb3.cell 0 (v := .int .i64 L) rfl
          have r1 := hb3.cell 1 (v := .bool I) rfl
          have rl := hb3.lt
          have rf0 := hb3.frozen 0
          have rf1 := hb3.frozen 1
          clear hj3 hk3 hb3 hy1 hR1 p0 p1 pl b4 b5 bl c0 c1
          cases I
          case true =>
            gi_wp2
            go_roundw
            case rel => exact ⟨k + 1, by omega, by go_num, (HSET.out _ _).1, by rw [HNX.out]; simpa using (HSET.out _ _).2.1, (HSET.out _ _).2.2⟩
            case measure => simp [intOf]; omega
          case false =>
            gi_wp2
            go_roundw
            case rel => exact ⟨k + 1, by omega, by go_num, (HSET.out _ _).1, by rw [HNX.out]; simpa using (HSET.out _ _).2.1, (HSET.out _ _).2.2⟩
            case measure => simp [intOf]; omega
        · have HJX := Lib.hid hjx
          clear hjx hy1 hR1 p0 p1 pl b4 b5 bl c0 c1
          gi_wp2
          refine bodyPost_ret (by simp [results, Try.results79, go_sem]; try rfl) rfl ⟨⟨_, rfl⟩, .inr ⟨_, trivial, HJX.out⟩⟩
    · obtain rfl : scores.length = k := by omega
      have b4 := HBB.out.lt
      clear hj hkc hb3
      gi_wp2
      refine bodyPost_end (results_none rfl _ _ _) rfl ⟨⟨_, rfl⟩, .inl ⟨_, rfl, HJK.out⟩⟩
end Go.Proofs.Ytmopadnkjlodnaa
