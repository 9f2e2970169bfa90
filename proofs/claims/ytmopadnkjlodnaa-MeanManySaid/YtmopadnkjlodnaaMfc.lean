/-
  Package mean: isSpan, fraction.
-/
import Derived.Test.YtmopadnkjlodnaaRfw
import Derived.Test.YtmopadnkjlodnaaMfr
import Derived.BigQuiet
namespace Go.Proofs.Ytmopadnkjlodnaa
open Go.RowKit
attribute [local go_sem] Oper.semAt_some
structure Sg where
  s : Sd
  g : Gl
def stT (start : Int) (scores : List Int) : Nat → Sd
  | 0 => ⟨start, false⟩
  | k + 1 => ⟨wrap64 ((stT start scores k).left - scores.getD k 0), (stT start scores k).inn || decide (0 < scores.getD k 0)⟩
def gAt (start : Int) (scores : List Int) (won : Bool) (k : Nat) : Sg := ⟨stT start scores k, ⟨scores.getD k 0, won && decide (k + 1 = scores.length)⟩⟩
def goT (start : Int) (scores : List Int) (won : Bool) (k : Nat) : List Sg := (List.range k).map (gAt start scores won)
theorem goT_succ (start : Int) (scores : List Int) (won : Bool) (k : Nat) : goT start scores won (k + 1) = goT start scores won k ++ [gAt start scores won k] := by
  unfold goT; rw [List.range_succ, List.map_append]; rfl
theorem enters_goals1 : Enters Try.prog 79 := enters_of Try.func79 (by kernel_rfl) rfl
set_option maxRecDepth 100000 in
set_option maxHeartbeats 4000000 in
theorem goals_seq (S : Nat → Prop) (n' : Nat) (start gin gout : Int) (vb : Value) (scores : List Int) (sa : Option Addr) (sc : Nat) (won : Bool) (B1 : Nat) (w : World) (hv : ∃ a n c, vb = .slice a n c) (hB : Blk w B1 #[.int .i64 start, .int .i64 gin, .int .i64 gout, vb, .slice sa scores.length sc, .bool won]) (hR : RdI S w (.slice sa scores.length sc) scores) (hl : scores.length ≤ 1000) (hS : ∀ k, S k → k < w.heap.size ∨ w.heap.size + 3 ≤ k) (hSB : ¬ S B1) :
    SeqW n' Try.prog 79 #[] #[.pointer (some ⟨B1, 0, none⟩)] (fun x : Sg => #[x.s.agg, x.g.agg]) (fun pre x W => (∃ k, k < scores.length ∧ pre = goT start scores won k ∧ x = gAt start scores won k) ∧ w.heap.size + 3 ≤ W.heap.size) (Kc S) (fun xs => xs = goT start scores won scores.length) (fun _ => True) 1 w := by
  obtain ⟨va, vn, vc, rfl⟩ := hv
  intro l J Jx W hxw hsz hJ hJx hY h0
  have HSZ := Lib.hid hsz
  have HR : Hid (RdI (fun k => k = W.heap.size ∨ S k) W (.slice sa scores.length sc) scores) := Lib.hid (by
    rcases hR.keep (Kc.of_ext hxw) with h | ⟨b, o, c, cs, t, f, h1, h2, h3, h4, h5, h6⟩
    · exact .inl h
    · refine .inr ⟨b, o, c, cs, t, f, h1, h2, h3, ?_, h5, h6⟩
      rintro (e | e)
      · have := (Array.getElem?_eq_some_iff.1 h5).1
        omega
      · exact h4 e)
  have HSB := Lib.hid hSB
  have HSK : Hid (¬ S W.heap.size) := Lib.hid (fun h => by rcases hS _ h with h | h <;> omega)
  have HB := Lib.hid (hB.ext hxw)
  have HY := Lib.hid hY
  have HJ := Lib.hid h0
  have HJA := Lib.hid hJ
  clear hR hY h0 hJ hJx hB hxw hsz hS hSB
  refine callsIn_of_wp Try.func79 rfl trivial ?_ rfl
  simp only [Try.ntmps79, List.size_toArray, List.length_cons, List.length_nil, Nat.reduceAdd, Nat.reduceSub, Array.replicate_succ, Array.replicate_zero, List.push_toArray, List.append_toArray, List.nil_append, List.cons_append]
  have b0 := HB.out.cell 0 (v := .int .i64 start) rfl
  have b4 := HB.out.cell 4 (v := .slice sa scores.length sc) rfl
  have bl := HB.out.lt
  gi_upto_region 2 with fail
  obtain ⟨K3, hk3⟩ : ∃ y, y = W.heap.size := ⟨_, rfl⟩
  obtain ⟨w1, hw1⟩ : ∃ y, y = W.alloc (.cells #[.int .i64 start, .bool false] 119) := ⟨_, rfl⟩
  rw [← hw1, ← hk3]
  have hx1 : Ext W w1 := by rw [hw1]; exact (Ext.refl W).alloc _
  have HB3 : Hid (Blk w1 K3 #[.int .i64 start, .bool false]) := Lib.hid (by rw [hw1, hk3]; exact Blk.new _ _ _)
  have HX1 := Lib.hid hx1
  have HK3 := Lib.hid hk3
  have HJ1 : Hid (J (goT start scores won 0) w1) := Lib.hid (by rw [hw1]; exact HJA.out.alloc _ HJ.out)
  clear hw1 hx1 hk3 b0 b4 bl
  gi_loopw [13] (fun i wr => ∃ k : Nat, k ≤ scores.length ∧ i = .int .i64 k ∧ J (goT start scores won k) wr ∧ Blk wr K3 #[.int .i64 (stT start scores k).left, .bool (stT start scores k).inn] ∧ Kc (fun k => k = K3 ∨ S k) w1 wr) (fun i _ => scores.length - (intOf i).toNat)
  case atStart => exact ⟨0, Nat.zero_le _, rfl, HJ1.out, HB3.out, Kc.refl _ _⟩
  case round =>
    obtain ⟨k, hk, rfl, hj, hb3, hkc⟩ := hrel
    have HJK := Lib.hid hj
    have HKC := Lib.hid hkc
    have HBK := Lib.hid hb3
    have hne : ¬ (B1 = K3) := by have := HB.out.lt; have := HK3.out; omega
    have HBB : Hid (Blk wr B1 _) := Lib.hid (hkc.blk (HB.out.ext HX1.out) (by rintro (e | e); exact hne e; exact HSB.out e))
    by_cases hlt : k < scores.length
    · have HRW : Hid (CellsAt wr .i64 sa scores) := Lib.hid (by
        have h1 := HR.out
        rw [← HK3.out] at h1
        obtain ⟨_, _, e, h2, -⟩ := ((h1.keep (Kc.of_ext HX1.out)).keep hkc).cells
        cases e
        exact h2)
      obtain ⟨bb, bo, e, c0⟩ := HRW.out k hlt
      subst e
      have c1 := lt_of_cell c0
      simp only at c1
      have hgd : scores.getD k 0 = scores[k] := by simp [hlt]
      obtain ⟨wb, hwb⟩ : ∃ b, decide (k + 1 = scores.length) = b := ⟨_, rfl⟩
      have hs1 : (gAt start scores won k).s.agg = .agg #[.int .i64 (stT start scores k).left, .bool (stT start scores k).inn] := rfl
      have hg1 : (gAt start scores won k).g.agg = .agg #[.int .i64 scores[k], .bool (won && wb)] := by unfold gAt Gl.agg; simp only; rw [hgd, hwb]
      obtain ⟨f1, t1, a1', b1', hy1, hR1⟩ := HY.out _ _ wr hj ⟨⟨k, hlt, rfl, rfl⟩, by have h1 := HB3.out.lt; have h2 := HK3.out; have h3 := hkc.size; have h4 := HSZ.out; omega⟩
      rw [hs1, hg1] at hy1
      have HNX : Hid (stT start scores (k + 1) = ⟨wrap64 ((stT start scores k).left - scores[k]), (stT start scores k).inn || decide (0 < scores[k])⟩) := Lib.hid (by show (⟨_, _⟩ : Sd) = _; rw [hgd])
      have hwn : wrap64 ((scores.length : Int) - 1) = (scores.length : Int) - 1 := wrap64_in' ⟨by omega, by omega⟩
      have heq : ((k : Int) == (scores.length : Int) - 1) = wb := by
        rw [← hwb]
        by_cases h : k + 1 = scores.length
        · rw [decide_eq_true h]; simp; omega
        · rw [decide_eq_false h]; simp; omega
      have HGS := Lib.hid (goT_succ start scores won k)
      have b4 := HBB.out.cell 4 (v := .slice (some ⟨bb, bo, none⟩) scores.length sc) rfl
      have b5 := HBB.out.cell 5 (v := .bool won) rfl
      have bl := HBB.out.lt
      generalize scores[k] = x at *
      generalize (stT start scores k).left = L at *
      generalize (stT start scores k).inn = I at *
      have p0 := HBK.out.cell 0 (v := .int .i64 L) rfl
      have p1 := HBK.out.cell 1 (v := .bool I) rfl
      have pl := HBK.out.lt
      clear hj hkc hb3 hgd hs1 hg1 hwb
      cases won
      case true =>
        simp only [Bool.true_and] at hy1
        gi_wp2
        refine ⟨fun h => (by cases h), hR1.mono ?_⟩
        rintro e w3 (⟨rfl, hj3, hk3⟩ | ⟨rfl, hjx⟩)
        · have hb3 := hk3.blk HBK.out (by rw [HK3.out]; exact HSK.out)
          have HSET : Hid (∀ v0 v1, J (goT start scores true (k + 1)) ((w3.setCell ⟨K3, 0, none⟩ v0).setCell ⟨K3, 1, none⟩ v1) ∧ Blk ((w3.setCell ⟨K3, 0, none⟩ v0).setCell ⟨K3, 1, none⟩ v1) K3 #[v0, v1] ∧ Kc (fun k => k = K3 ∨ S k) w1 ((w3.setCell ⟨K3, 0, none⟩ v0).setCell ⟨K3, 1, none⟩ v1)) := Lib.hid (fun v0 v1 => by
            have hc := two_chg (· = K3) w3 (b := K3) rfl v0 v1
            refine ⟨?_, two_set hb3 v0 v1, (HKC.out.trans ⟨hk3.size, fun k cs t f h hn => hk3.keep k cs t f h (fun e => hn (.inr e))⟩).trans (.of_chg (hc.mono (fun _ _ h => .inl h)))⟩
            rw [HGS.out]
            exact HJA.out _ w3 _ (some K3) hj3 ⟨hc.os, hc.tape, hc.output, hc.size, fun k hk hne => hc.block k hk (fun e => hne (by rw [show k = K3 from e]))⟩ (by rintro r ⟨⟩; have := HK3.out; omega))
          have r0 := hb3.cell 0 (v := .int .i64 L) rfl
          have r1 := hb3.cell 1 (v := .bool I) rfl
          have rl := hb3.lt
          have rf0 := hb3.frozen 0
          have rf1 := hb3.frozen 1
          clear hj3 hk3 hb3 hy1 hR1 p0 p1 pl b4 b5 bl c0 c1
          cases I
          case true =>
            gi_wp2
            go_roundw
            case rel => exact ⟨k + 1, by omega, by go_num, (HSET.out _ _).1, by rw [HNX.out]; simpa using (HSET.out _ _).2.1, (HSET.out _ _).2.2⟩
            case measure => simp [intOf]; omega
          case false =>
            gi_wp2
            go_roundw
            case rel => exact ⟨k + 1, by omega, by go_num, (HSET.out _ _).1, by rw [HNX.out]; simpa using (HSET.out _ _).2.1, (HSET.out _ _).2.2⟩
            case measure => simp [intOf]; omega
        · have HJX := Lib.hid hjx
          clear hjx hy1 hR1 p0 p1 pl b4 b5 bl c0 c1
          gi_wp2
          refine bodyPost_ret (by simp [results, Try.results79, go_sem]; try rfl) rfl ⟨⟨_, rfl⟩, .inr ⟨_, trivial, HJX.out⟩⟩
      case false =>
        simp only [Bool.false_and] at hy1
        gi_wp2
        refine ⟨fun h => (by cases h), hR1.mono ?_⟩
        rintro e w3 (⟨rfl, hj3, hk3⟩ | ⟨rfl, hjx⟩)
        · have hb3 := hk3.blk HBK.out (by rw [HK3.out]; exact HSK.out)
          have HSET : Hid (∀ v0 v1, J (goT start scores false (k + 1)) ((w3.setCell ⟨K3, 0, none⟩ v0).setCell ⟨K3, 1, none⟩ v1) ∧ Blk ((w3.setCell ⟨K3, 0, none⟩ v0).setCell ⟨K3, 1, none⟩ v1) K3 #[v0, v1] ∧ Kc (fun k => k = K3 ∨ S k) w1 ((w3.setCell ⟨K3, 0, none⟩ v0).setCell ⟨K3, 1, none⟩ v1)) := Lib.hid (fun v0 v1 => by
            have hc := two_chg (· = K3) w3 (b := K3) rfl v0 v1
            refine ⟨?_, two_set hb3 v0 v1, (HKC.out.trans ⟨hk3.size, fun k cs t f h hn => hk3.keep k cs t f h (fun e => hn (.inr e))⟩).trans (.of_chg (hc.mono (fun _ _ h => .inl h)))⟩
            rw [HGS.out]
            exact HJA.out _ w3 _ (some K3) hj3 ⟨hc.os, hc.tape, hc.output, hc.size, fun k hk hne => hc.block k hk (fun e => hne (by rw [show k = K3 from e]))⟩ (by rintro r ⟨⟩; have := HK3.out; omega))
          have r0 := hb3.cell 0 (v := .int .i64 L) rfl
          have r1 := hb3.cell 1 (v := .bool I) rfl
          have rl := hb3.lt
          have rf0 := hb3.frozen 0
          have rf1 := hb3.frozen 1
          clear hj3 hk3 hb3 hy1 hR1 p0 p1 pl b4 b5 bl c0 c1
          cases I
          case true =>
            gi_wp2
            go_roundw
            case rel => exact ⟨k + 1, by omega, by go_num, (HSET.out _ _).1, by rw [HNX.out]; simpa using (HSET.out _ _).2.1, (HSET.out _ _).2.2⟩
            case measure => simp [intOf]; omega
          case false =>
            gi_wp2
            go_roundw
            case rel => exact ⟨k + 1, by omega, by go_num, (HSET.out _ _).1, by rw [HNX.out]; simpa using (HSET.out _ _).2.1, (HSET.out _ _).2.2⟩
            case measure => simp [intOf]; omega
        · have HJX := Lib.hid hjx
          clear hjx hy1 hR1 p0 p1 pl b4 b5 bl c0 c1
          gi_wp2
          refine bodyPost_ret (by simp [results, Try.results79, go_sem]; try rfl) rfl ⟨⟨_, rfl⟩, .inr ⟨_, trivial, HJX.out⟩⟩
    · obtain rfl : scores.length = k := by omega
      have b4 := HBB.out.lt
      clear hj hkc hb3
      gi_wp2
      refine bodyPost_end (results_none rfl _ _ _) rfl ⟨⟨_, rfl⟩, .inl ⟨_, rfl, HJK.out⟩⟩
end Go.Proofs.Ytmopadnkjlodnaa
namespace Go.Proofs.Ytmopadnkjlodnaa
open Go.RowKit
attribute [local go_sem] Oper.semAt_some run_makeMap_plain
set_option maxHeartbeats 4000000 in
theorem mean_goals (start gin gout : Int) (ba sa : Option Addr) (bn bc sn sc : Nat) (won : Bool) (w : World) :
    Calls Try.prog 57 #[.agg #[.int .i64 start, .int .i64 gin, .int .i64 gout, .slice ba bn bc, .slice sa sn sc, .bool won]] w fun e w' => ∃ B1, e = .returned (.func (.func 79) #[] #[.pointer (some ⟨B1, 0, none⟩)]) ∧ w.heap.size ≤ B1 ∧ Blk w' B1 #[.int .i64 start, .int .i64 gin, .int .i64 gout, .slice ba bn bc, .slice sa sn sc, .bool won] ∧ Ext w w' := by
  go_enter Try.func57, Try.ntmps57
  go_wp2
  refine bodyPost_ret (v := .func (.func 79) #[] #[.pointer (some ⟨w.heap.size, 0, none⟩)]) (by simp [results, Try.results57, go_sem]) rfl ⟨_, rfl, Nat.le_refl _, Blk.new _ _ _, (Ext.refl w).alloc _⟩
set_option maxHeartbeats 4000000 in
theorem mean_newBoard (start gin gout : Int) (ba : Option Addr) (bn bc : Nat) (w : World) :
    Calls Try.prog 50 #[.agg #[.int .i64 start, .int .i64 gin, .int .i64 gout, .slice ba bn bc]] w fun e w' => ∃ kb bf, e = .returned (.pointer (some ⟨kb, 0, none⟩)) ∧ w.heap.size ≤ kb ∧ w.heap.size ≤ bf ∧ Blk w' kb #[.int .i64 start, .int .i64 gin, .int .i64 gout, .slice ba bn bc, .map (some bf)] ∧ MapL Sd.agg mpK w' bf [] ∧ Ext w w' := by
  go_enter Try.func50, Try.ntmps50
  go_wp2
  refine bodyPost_ret (v := .pointer (some ⟨w.heap.size + 1 + 1, 0, none⟩)) (by simp [results, Try.results50, go_sem]) rfl ⟨_, w.heap.size + 1, rfl, by omega, by omega, Blk.at _ (by simp), ?_, (((Ext.refl w).alloc _).alloc _).alloc _⟩
  obtain ⟨o, ho⟩ : ∃ o, o = Obj.cells #[.int .i64 start, .int .i64 gin, .int .i64 gout, .slice ba bn bc] 101 := ⟨_, rfl⟩
  have h0 : MapL Sd.agg mpK ((w.alloc o).alloc (.map #[] 0)) (w.alloc o).heap.size ([] : List (Sd × Nat)) := MapL.made _
  have e : (w.alloc o).heap.size = w.heap.size + 1 := by simp
  rw [e, ho] at h0
  exact h0.ext ((Ext.refl _).alloc _)
end Go.Proofs.Ytmopadnkjlodnaa
namespace Go.Proofs.Ytmopadnkjlodnaa
open Go.RowKit Go.BigFrame
attribute [local go_sem] Oper.semAt_some Later.cell Later.frozen
structure Fra where
  n : Int
  d : Int
structure Ran where
  lo : Fra
  hi : Fra
def cmpW (a b : Fra) : Int := wrap64 (wrap64 (a.n * b.d) - wrap64 (b.n * a.d))
def ranB (r : Ran) : Bool := ins 0 3000000 [r.lo.n, r.hi.n] && (ins 1 1000000 [r.lo.d, r.hi.d] && decide (cmpW r.lo r.hi ≤ 0))
def Fra.agg (a : Fra) : Value := .agg #[.int .i64 a.n, .int .i64 a.d]
def Ran.agg (r : Ran) : Value := .agg #[.int .i64 r.lo.n, .int .i64 r.lo.d, .int .i64 r.hi.n, .int .i64 r.hi.d]
def Ran.I (r : Ran) : Prop := I64 r.lo.n ∧ I64 r.lo.d ∧ I64 r.hi.n ∧ I64 r.hi.d
theorem mean_compare (an ad bn bd : Int) (w : World) : Calls Try.prog 71 #[.agg #[.int .i64 an, .int .i64 ad], .agg #[.int .i64 bn, .int .i64 bd]] w fun e w' => e = .returned (.int .i64 (cmpW ⟨an, ad⟩ ⟨bn, bd⟩)) ∧ Ext w w' := by
  go_enter Try.func71, Try.ntmps71
  go_wp2
  refine bodyPost_ret (v := .int .i64 (cmpW ⟨an, ad⟩ ⟨bn, bd⟩)) (by simp [results, Try.results71, go_sem, cmpW]) rfl ⟨rfl, ((Ext.refl w).alloc _).alloc _⟩
set_option maxHeartbeats 4000000 in
theorem mean_isRange (ln ld hn hd : Int) (w : World) : Calls Try.prog 70 #[.agg #[.int .i64 ln, .int .i64 ld, .int .i64 hn, .int .i64 hd]] w fun e w' => e = .returned (.bool (ranB ⟨⟨ln, ld⟩, ⟨hn, hd⟩⟩)) ∧ Ext w w' := by
  obtain ⟨rb, hrb⟩ : ∃ c, ranB ⟨⟨ln, ld⟩, ⟨hn, hd⟩⟩ = c := ⟨_, rfl⟩
  rw [hrb]
  have HRB := Lib.hid hrb
  clear hrb
  go_enter Try.func70, Try.ntmps70
  go_wp2_with fail
  refine (mean_within_2 0 3000000 ln hn (w.alloc _) _ (by simp)).mono ?_
  rintro e w1 ⟨rfl, hx1⟩
  have hx := ((Ext.refl w).alloc _).trans hx1
  have hb : Blk w1 w.heap.size #[.int .i64 ln, .int .i64 ld, .int .i64 hn, .int .i64 hd] := (Blk.new _ _ _).ext hx1
  have b0 := hb.cell 0 (v := .int .i64 ln) rfl
  have b1 := hb.cell 1 (v := .int .i64 ld) rfl
  have b2 := hb.cell 2 (v := .int .i64 hn) rfl
  have b3 := hb.cell 3 (v := .int .i64 hd) rfl
  have bl := hb.lt
  have HX := Lib.hid hx
  clear hx1 hx
  cases h1 : ins 0 3000000 [ln, hn]
  · have e : rb = false := by rw [← HRB.out]; simp [ranB, h1]
    subst e
    go_wp2
    refine bodyPost_ret (v := .bool false) (by simp [results, Try.results70, go_sem]) rfl ⟨rfl, HX.out⟩
  go_wp2_with fail
  refine (mean_within_2 1 1000000 ld hd w1 _ (by simp)).mono ?_
  rintro e w2 ⟨rfl, hx2⟩
  replace b0 := hx2.cell b0
  replace b1 := hx2.cell b1
  replace b2 := hx2.cell b2
  replace b3 := hx2.cell b3
  replace bl : w.heap.size < w2.heap.size := Nat.lt_of_lt_of_le bl hx2.size
  have HX2 := Lib.hid (HX.out.trans hx2)
  clear hx2 hb
  cases h2 : ins 1 1000000 [ld, hd]
  · have e : rb = false := by rw [← HRB.out]; simp [ranB, h2]
    subst e
    go_wp2
    refine bodyPost_ret (v := .bool false) (by simp [results, Try.results70, go_sem]) rfl ⟨rfl, HX2.out⟩
  go_wp2_with fail
  refine (mean_compare ln ld hn hd w2).mono ?_
  rintro e w3 ⟨rfl, hx3⟩
  have HX3 := Lib.hid (HX2.out.trans hx3)
  have e : rb = decide (cmpW ⟨ln, ld⟩ ⟨hn, hd⟩ ≤ 0) := by rw [← HRB.out]; simp [ranB, h1, h2]
  have HE := Lib.hid e
  clear hx3 e
  go_wp2
  refine bodyPost_ret (v := .bool rb) (by simp [results, Try.results70, go_sem, HE.out]) rfl ⟨rfl, HX3.out⟩
/-- Whether a range is above another one, surely and possibly, or the error. -/
def betR (a b : Ran) : Value := if ranB a = false ∨ ranB b = false then .tuple #[.bool false, .bool false, .int .i64 2] else .tuple #[.bool (decide (0 < cmpW a.lo b.hi)), .bool (decide (0 < cmpW a.hi b.lo)), .int .i64 0]
set_option maxHeartbeats 4000000 in
theorem mean_Better (a b : Ran) (w : World) : Calls Try.prog 32 #[a.agg, b.agg] w fun e w' => e = .returned (betR a b) ∧ Ext w w' := by
  obtain ⟨rv, hrv⟩ : ∃ c, betR a b = c := ⟨_, rfl⟩
  rw [hrv]
  have HRV := Lib.hid hrv
  clear hrv
  obtain ⟨⟨al, ad⟩, ⟨ah, ae⟩⟩ := a
  obtain ⟨⟨bl, bd⟩, ⟨bh, be⟩⟩ := b
  unfold Ran.agg
  simp only
  go_enter Try.func32, Try.ntmps32
  go_wp2_with fail
  refine (mean_isRange al ad ah ae _).mono ?_
  rintro e w1 ⟨rfl, hx1⟩
  have hx := (((Ext.refl w).alloc _).alloc _).trans hx1
  have hb : Blk w1 w.heap.size #[.int .i64 al, .int .i64 ad, .int .i64 ah, .int .i64 ae] := ((Blk.new _ _ _).alloc _).ext hx1
  have hc : Blk w1 (w.heap.size + 1) #[.int .i64 bl, .int .i64 bd, .int .i64 bh, .int .i64 be] := (Blk.at _ (by simp)).ext hx1
  have HB := Lib.hid hb
  have HC := Lib.hid hc
  have HX := Lib.hid hx
  have c0 := hc.cell 0 (v := .int .i64 bl) rfl
  have c1 := hc.cell 1 (v := .int .i64 bd) rfl
  have c2 := hc.cell 2 (v := .int .i64 bh) rfl
  have c3 := hc.cell 3 (v := .int .i64 be) rfl
  have cl := hc.lt
  clear hx1 hx hb hc
  cases h1 : ranB ⟨⟨al, ad⟩, ⟨ah, ae⟩⟩
  · have e : rv = .tuple #[.bool false, .bool false, .int .i64 2] := by rw [← HRV.out]; simp [betR, h1]
    have HE := Lib.hid e
    clear e
    go_wp2
    refine bodyPost_ret (v := rv) (by simp [results, Try.results32, go_sem, HE.out]) rfl ⟨rfl, HX.out⟩
  go_wp2_with fail
  refine (mean_isRange bl bd bh be _).mono ?_
  rintro e w2 ⟨rfl, hx2⟩
  have HX2 := Lib.hid (HX.out.trans hx2)
  have hb := HB.out.ext hx2
  have hc := HC.out.ext hx2
  clear c0 c1 c2 c3 cl hx2
  cases h2 : ranB ⟨⟨bl, bd⟩, ⟨bh, be⟩⟩
  · have e : rv = .tuple #[.bool false, .bool false, .int .i64 2] := by rw [← HRV.out]; simp [betR, h2]
    have HE := Lib.hid e
    clear e hb hc
    go_wp2
    refine bodyPost_ret (v := rv) (by simp [results, Try.results32, go_sem, HE.out]) rfl ⟨rfl, HX2.out⟩
  have e : rv = .tuple #[.bool (decide (0 < cmpW ⟨al, ad⟩ ⟨bh, be⟩)), .bool (decide (0 < cmpW ⟨ah, ae⟩ ⟨bl, bd⟩)), .int .i64 0] := by rw [← HRV.out]; simp [betR, h1, h2]
  have HE := Lib.hid e
  clear e
  have b0 := hb.cell 0 (v := .int .i64 al) rfl
  have b1 := hb.cell 1 (v := .int .i64 ad) rfl
  have b2 := hb.cell 2 (v := .int .i64 ah) rfl
  have b3 := hb.cell 3 (v := .int .i64 ae) rfl
  have bl' := hb.lt
  have c0 := hc.cell 0 (v := .int .i64 bl) rfl
  have c1 := hc.cell 1 (v := .int .i64 bd) rfl
  have c2 := hc.cell 2 (v := .int .i64 bh) rfl
  have c3 := hc.cell 3 (v := .int .i64 be) rfl
  have cl := hc.lt
  clear hb hc
  go_upto_region 3 with fail
  refine wp_region_later (by kernel_rfl) (by kernel_rfl) ?_
  repeat (go_big_quiet_step (first | with_reducible refine Calls.later (mean_compare al ad bh be _) | with_reducible refine Calls.later (mean_compare ah ae bl bd _)))
  refine wpQuiet_nil ?_
  intro w3 hw3
  obtain ⟨⟨w3, hx3⟩, rfl⟩ := hw3
  have HX3 := Lib.hid (HX2.out.trans hx3)
  clear hx3
  go_wp2
  refine bodyPost_ret (v := rv) (by simp [results, Try.results32, go_sem, HE.out]) rfl ⟨rfl, HX3.out⟩
end Go.Proofs.Ytmopadnkjlodnaa
namespace Go.Proofs.Ytmopadnkjlodnaa
open Go.RowKit Go.BigFrame
attribute [local go_sem] Oper.semAt_some Later.cell Later.frozen
structure Spn where
  lo : Int
  hi : Int
def spnB (s : Spn) : Bool := decide (s.lo ≤ s.hi) && ins 0 1000000 [s.lo, s.hi]
def fracS (n d : Int) : Fra := ⟨n.tdiv (Int.gcd n d), d.tdiv (Int.gcd n d)⟩
set_option maxHeartbeats 4000000 in
theorem mean_isSpan (l h : Int) (w : World) : Calls Try.prog 62 #[.agg #[.int .i64 l, .int .i64 h]] w fun e w' => e = .returned (.bool (spnB ⟨l, h⟩)) ∧ Ext w w' := by
  obtain ⟨rb, hrb⟩ : ∃ c, spnB ⟨l, h⟩ = c := ⟨_, rfl⟩
  rw [hrb]
  have HRB := Lib.hid hrb
  clear hrb
  go_enter Try.func62, Try.ntmps62
  cases h1 : decide (l ≤ h)
  · have e : rb = false := by rw [← HRB.out]; simp [spnB, h1]
    have h1' : ¬ l ≤ h := by simpa using h1
    subst e
    go_wp2
    refine bodyPost_ret (v := .bool false) (by simp [results, Try.results62, go_sem]) rfl ⟨rfl, (Ext.refl w).alloc _⟩
  have h1' : l ≤ h := by simpa using h1
  go_wp2_with fail
  refine (mean_within_2 0 1000000 l h (w.alloc _) _ (by simp)).mono ?_
  rintro e w1 ⟨rfl, hx1⟩
  have HX := Lib.hid (((Ext.refl w).alloc _).trans hx1)
  have e : rb = ins 0 1000000 [l, h] := by rw [← HRB.out]; simp [spnB, h1']
  have HE := Lib.hid e
  clear hx1 e
  go_wp2
  refine bodyPost_ret (v := .bool rb) (by simp [results, Try.results62, go_sem, HE.out]) rfl ⟨rfl, HX.out⟩
theorem gcd_step {a b : Int} (ha : 0 ≤ a) (hb : 0 < b) : Int.gcd b (a.tmod b) = Int.gcd a b := by
  obtain ⟨a', rfl⟩ := Int.eq_ofNat_of_zero_le ha
  obtain ⟨b', rfl⟩ := Int.eq_ofNat_of_zero_le (Int.le_of_lt hb)
  show Nat.gcd b' (a' % b') = Nat.gcd a' b'
  rw [Nat.gcd_comm b', ← Nat.gcd_rec, Nat.gcd_comm]
theorem tmod_bounds {a b : Int} (ha : 0 ≤ a) (hb : 0 < b) : 0 ≤ a.tmod b ∧ a.tmod b < b := by
  rw [Int.tmod_eq_emod_of_nonneg ha]
  exact ⟨Int.emod_nonneg _ (by omega), Int.emod_lt_of_pos _ hb⟩
theorem tdiv_bounds {a b : Int} (ha : 0 ≤ a) (hb : 0 < b) : 0 ≤ a.tdiv b ∧ a.tdiv b ≤ a := by
  rw [Int.tdiv_eq_ediv_of_nonneg ha]
  exact ⟨Int.ediv_nonneg ha (by omega), Int.ediv_le_self _ ha⟩
set_option maxRecDepth 100000 in
set_option maxHeartbeats 4000000 in
theorem mean_fraction (n d : Int) (w : World) (hn : 0 ≤ n ∧ n ≤ 3000000) (hd : 0 < d ∧ d ≤ 1000000) : Calls Try.prog 63 #[.int .i64 n, .int .i64 d] w fun e w' => e = .returned (fracS n d).agg ∧ Ext w w' := by
  go_enter Try.func63, Try.ntmps63
  go_wp2
  obtain ⟨w1, hw1⟩ : ∃ y, y = w.alloc (.cells #[.int .i64 0, .int .i64 0] 57) := ⟨_, rfl⟩
  rw [← hw1]
  have HX1 : Hid (Ext w w1) := Lib.hid (by rw [hw1]; exact (Ext.refl w).alloc _)
  have HB1 : Hid (Blk w1 w.heap.size #[.int .i64 0, .int .i64 0]) := Lib.hid (by rw [hw1]; exact Blk.new _ _ _)
  have HN := Lib.hid hn
  have HD := Lib.hid hd
  clear hw1 hn hd
  go_loopw [5, 6] (fun a b wr => ∃ x y : Int, a = .int .i64 x ∧ b = .int .i64 y ∧ (0 ≤ x ∧ x ≤ 3000000) ∧ (0 ≤ y ∧ y ≤ 1000000) ∧ (0 < x ∨ 0 < y) ∧ Int.gcd x y = Int.gcd n d ∧ Ext w1 wr) (fun _ b _ => (intOf b).toNat)
  case atStart => exact ⟨n, d, rfl, rfl, HN.out, ⟨by have := HD.out; omega, HD.out.2⟩, .inr HD.out.1, rfl, Ext.refl w1⟩
  case round =>
    obtain ⟨x, y, rfl, rfl, hx, hy, hp, hg, hw⟩ := hrel
    have HXX := Lib.hid hx
    have HYY := Lib.hid hy
    have HPP := Lib.hid hp
    have HGG := Lib.hid hg
    have HWW := Lib.hid hw
    clear hx hy hp hg hw
    by_cases hlt : 0 < y
    · have h0 : ¬ y = 0 := by omega
      go_upto_region 3 with fail
      refine wp_region_later (by kernel_rfl) (by kernel_rfl) ?_
      repeat (go_big_quiet_step (fail))
      refine wpQuiet_nil ?_
      intro w3 hw3
      obtain ⟨⟨w3, hx3⟩, rfl⟩ := hw3
      have HX3 := Lib.hid (HWW.out.trans hx3)
      clear hx3
      go_wp2
      go_roundw
      case rel =>
        have hb := tmod_bounds HXX.out.1 hlt
        have := HYY.out
        exact ⟨y, _, rfl, rfl, ⟨by omega, by omega⟩, ⟨hb.1, by omega⟩, .inl hlt, (gcd_step HXX.out.1 hlt).trans HGG.out, HX3.out⟩
      case measure =>
        have hb := tmod_bounds HXX.out.1 hlt
        simp [intOf]
        omega
    · have hy0 : y = 0 := by have := HYY.out; omega
      have hx0 : 0 < x := by have := HPP.out; omega
      have hne : ¬ x = 0 := by omega
      have hgx : (Int.gcd n d : Int) = x := by
        rw [← HGG.out, hy0, Int.gcd_zero_right]
        omega
      have hv : (fracS n d).agg = .agg #[.int .i64 (n.tdiv x), .int .i64 (d.tdiv x)] := by unfold fracS Fra.agg; simp only; rw [hgx]
      have hb1 := tdiv_bounds HN.out.1 hx0
      have hb2 := tdiv_bounds (Int.le_of_lt HD.out.1) hx0
      have hi1 : wrap64 (n.tdiv x) = n.tdiv x := wrap64_in' ⟨by omega, by have := HN.out; omega⟩
      have hi2 : wrap64 (d.tdiv x) = d.tdiv x := wrap64_in' ⟨by omega, by have := HD.out; omega⟩
      have HV := Lib.hid hv
      have HBR := Lib.hid (HB1.out.ext HWW.out)
      have HXF := Lib.hid (HX1.out.trans HWW.out)
      clear hb1 hb2 hgx hv hx0 hy0
      have HI1 := Lib.hid hi1
      have HI2 := Lib.hid hi2
      clear hi1 hi2
      obtain ⟨KB, hK⟩ : ∃ y, y = w.heap.size := ⟨_, rfl⟩
      rw [← hK] at HBR ⊢
      have HK := Lib.hid hK
      have hk7 : ∀ k : Nat, (k == 7) = true → k < 8 := by
        intro k hk
        have : k = 7 := by simpa using hk
        omega
      clear hK
      go_upto_region 4 with fail
      refine wp_region_lat (by kernel_rfl) (fun b _ => b = KB) (fun k => k == 7) (fun _ _ => True) (fun L _ W => bif L 7 then Blk W KB #[.int .i64 (wrap64 (n.tdiv x)), .int .i64 (wrap64 (d.tdiv x))] else Blk W KB #[.int .i64 0, .int .i64 0]) (by kernel_rfl) (fun k hk => hk7 k hk)
        (fun L L' u w' h hg => by have e := h 7 rfl; show (bif L' 7 then _ else _); rw [e]; exact hg) (fun L u a b h hx => by revert h; show (bif L 7 then _ else _) → (bif L 7 then _ else _); cases L 7 <;> exact fun h => Blk.ext h hx) (fun _ => undef) (fun _ _ => trivial) (HBR.out.ext (Ext.refl wr).drew) ?_
      intro T hT hne2 u hu
      clear hu
      refine lx_next 7 (by rfl) (by decide) ?_
      dsimp only [List.take, List.drop]
      repeat (go_big_quiet_step (fail))
      refine wpQuiet_nil ?_
      refine lx_loud (by rfl) (by kernel_rfl) ?_ (fun K hK => ?_)
      · intro L w4 hL hd hcl hC hs
        obtain ⟨y, rfl⟩ := hC
        simp only [hL, cond_false] at hs
        have r0 := hs.cell 0 (v := .int .i64 0) rfl
        have r1 := hs.cell 1 (v := .int .i64 0) rfl
        have rf0 := hs.frozen 0
        have rf1 := hs.frozen 1
        have rl := hs.lt
        have HS := Lib.hid hs
        clear hs
        go_wp2
        exact ⟨⟨y.chgd (two_chg (· = KB) y.world rfl _ _) (fun k hk => .inr fun _ => hk), rfl⟩, two_set HS.out _ _⟩
      go_simp
      with_reducible refine hK _ ?_
      clear hK K
      refine lx_nil ?_
      intro y hs
      simp only [cond_true] at hs
      have r0 := hs.cell 0 (v := .int .i64 (wrap64 (n.tdiv x))) rfl
      have r1 := hs.cell 1 (v := .int .i64 (wrap64 (d.tdiv x))) rfl
      have HC : Hid (Ext w y.world) := Lib.hid (Chg.to_ext HXF.out (y.chg.mono (T := (· = KB)) (by rintro q - ⟨_, e⟩; exact e)) (by rintro i rfl; rw [HK.out]; exact Nat.le_refl _))
      clear hs hT hne2
      generalize y.world = w9 at *
      go_wp2
      refine bodyPost_ret (v := .agg #[.int .i64 (wrap64 (n.tdiv x)), .int .i64 (wrap64 (d.tdiv x))]) (by simp [results, Try.results63, go_sem, r0, r1]) rfl ⟨by rw [HV.out, HI1.out, HI2.out], HC.out⟩
end Go.Proofs.Ytmopadnkjlodnaa
