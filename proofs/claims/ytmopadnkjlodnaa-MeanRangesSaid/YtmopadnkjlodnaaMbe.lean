/-
  Package mean: fractions and ranges: compare, isRange, Better.
-/
import Derived.Test.YtmopadnkjlodnaaMgp
import Derived.BigQuiet
namespace Go.Proofs.Ytmopadnkjlodnaa
open Go.RowKit Go.BigFrame
attribute [local go_sem] Oper.semAt_some Later.cell Later.frozen
structure Fra where
  n : Int
  d : Int
structure Ran where
  lo : Fra
  hi : Fra
def cmpW (a b : Fra) : Int := wrap64 (wrap64 (a.n * b.d) - wrap64 (b.n * a.d))
def ranB (r : Ran) : Bool := ins 0 3000000 [r.lo.n, r.hi.n] && (ins 1 1000000 [r.lo.d, r.hi.d] && decide (cmpW r.lo r.hi ≤ 0))
def Fra.agg (a : Fra) : Value := .agg #[.int .i64 a.n, .int .i64 a.d]
def Ran.agg (r : Ran) : Value := .agg #[.int .i64 r.lo.n, .int .i64 r.lo.d, .int .i64 r.hi.n, .int .i64 r.hi.d]
def Ran.I (r : Ran) : Prop := I64 r.lo.n ∧ I64 r.lo.d ∧ I64 r.hi.n ∧ I64 r.hi.d
theorem mean_compare (an ad bn bd : Int) (w : World) : Calls Try.prog 71 #[.agg #[.int .i64 an, .int .i64 ad], .agg #[.int .i64 bn, .int .i64 bd]] w fun e w' => e = .returned (.int .i64 (cmpW ⟨an, ad⟩ ⟨bn, bd⟩)) ∧ Ext w w' := by
  go_enter Try.func71, Try.ntmps71
  go_wp2
  refine bodyPost_ret (v := .int .i64 (cmpW ⟨an, ad⟩ ⟨bn, bd⟩)) (by simp [results, Try.results71, go_sem, cmpW]) rfl ⟨rfl, ((Ext.refl w).alloc _).alloc _⟩
set_option maxHeartbeats 4000000 in
theorem mean_isRange (ln ld hn hd : Int) (w : World) : Calls Try.prog 70 #[.agg #[.int .i64 ln, .int .i64 ld, .int .i64 hn, .int .i64 hd]] w fun e w' => e = .returned (.bool (ranB ⟨⟨ln, ld⟩, ⟨hn, hd⟩⟩)) ∧ Ext w w' := by
  obtain ⟨rb, hrb⟩ : ∃ c, ranB ⟨⟨ln, ld⟩, ⟨hn, hd⟩⟩ = c := ⟨_, rfl⟩
  rw [hrb]
  have HRB := Lib.hid hrb
  clear hrb
  go_enter Try.func70, Try.ntmps70
  go_wp2_with fail
  refine (mean_within_2 0 3000000 ln hn (w.alloc _) _ (by simp)).mono ?_
  rintro e w1 ⟨rfl, hx1⟩
  have hx := ((Ext.refl w).alloc _).trans hx1
  have hb : Blk w1 w.heap.size #[.int .i64 ln, .int .i64 ld, .int .i64 hn, .int .i64 hd] := (Blk.new _ _ _).ext hx1
  have b0 := hb.cell 0 (v := .int .i64 ln) rfl
  have b1 := hb.cell 1 (v := .int .i64 ld) rfl
  have b2 := hb.cell 2 (v := .int .i64 hn) rfl
  have b3 := hb.cell 3 (v := .int .i64 hd) rfl
  have bl := hb.lt
  have HX := Lib.hid hx
  clear hx1 hx
  cases h1 : ins 0 3000000 [ln, hn]
  · have e : rb = false := by rw [← HRB.out]; simp [ranB, h1]
    subst e
    go_wp2
    refine bodyPost_ret (v := .bool false) (by simp [results, Try.results70, go_sem]) rfl ⟨rfl, HX.out⟩
  go_wp2_with fail
  refine (mean_within_2 1 1000000 ld hd w1 _ (by simp)).mono ?_
  rintro e w2 ⟨rfl, hx2⟩
  replace b0 := hx2.cell b0
  replace b1 := hx2.cell b1
  replace b2 := hx2.cell b2
  replace b3 := hx2.cell b3
  replace bl : w.heap.size < w2.heap.size := Nat.lt_of_lt_of_le bl hx2.size
  have HX2 := Lib.hid (HX.out.trans hx2)
  clear hx2 hb
  cases h2 : ins 1 1000000 [ld, hd]
  · have e : rb = false := by rw [← HRB.out]; simp [ranB, h2]
    subst e
    go_wp2
    refine bodyPost_ret (v := .bool false) (by simp [results, Try.results70, go_sem]) rfl ⟨rfl, HX2.out⟩
  go_wp2_with fail
  refine (mean_compare ln ld hn hd w2).mono ?_
  rintro e w3 ⟨rfl, hx3⟩
  have HX3 := Lib.hid (HX2.out.trans hx3)
  have e : rb = decide (cmpW ⟨ln, ld⟩ ⟨hn, hd⟩ ≤ 0) := by rw [← HRB.out]; simp [ranB, h1, h2]
  have HE := Lib.hid e
  clear hx3 e
  go_wp2
  refine bodyPost_ret (v := .bool rb) (by simp [results, Try.results70, go_sem, HE.out]) rfl ⟨rfl, HX3.out⟩
/-- Whether a range is above another one, surely and possibly, or the error. -/
def betR (a b : Ran) : Value := if ranB a = false ∨ ranB b = false then .tuple #[.bool false, .bool false, .int .i64 2] else .tuple #[.bool (decide (0 < cmpW a.lo b.hi)), .bool (decide (0 < cmpW a.hi b.lo)), .int .i64 0]
set_option maxHeartbeats 4000000 in
theorem mean_Better (a b : Ran) (w : World) : Calls Try.prog 32 #[a.agg, b.agg] w fun e w' => e = .returned (betR a b) ∧ Ext w w' := by
  obtain ⟨rv, hrv⟩ : ∃ c, betR a b = c := ⟨_, rfl⟩
  rw [hrv]
  have HRV := Lib.hid hrv
  clear hrv
  obtain ⟨⟨al, ad⟩, ⟨ah, ae⟩⟩ := a
  obtain ⟨⟨bl, bd⟩, ⟨bh, be⟩⟩ := b
  unfold Ran.agg
  simp only
  go_enter Try.func32, Try.ntmps32
  go_wp2_with fail
  refine (mean_isRange al ad ah ae _).mono ?_
  rintro e w1 ⟨rfl, hx1⟩
  have hx := (((Ext.refl w).alloc _).alloc _).trans hx1
  have hb : Blk w1 w.heap.size #[.int .i64 al, .int .i64 ad, .int .i64 ah, .int .i64 ae] := ((Blk.new _ _ _).alloc _).ext hx1
  have hc : Blk w1 (w.heap.size + 1) #[.int .i64 bl, .int .i64 bd, .int .i64 bh, .int .i64 be] := (Blk.at _ (by simp)).ext hx1
  have HB := Lib.hid hb
  have HC := Lib.hid hc
  have HX := Lib.hid hx
  have c0 := hc.cell 0 (v := .int .i64 bl) rfl
  have c1 := hc.cell 1 (v := .int .i64 bd) rfl
  have c2 := hc.cell 2 (v := .int .i64 bh) rfl
  have c3 := hc.cell 3 (v := .int .i64 be) rfl
  have cl := hc.lt
  clear hx1 hx hb hc
  cases h1 : ranB ⟨⟨al, ad⟩, ⟨ah, ae⟩⟩
  · have e : rv = .tuple #[.bool false, .bool false, .int .i64 2] := by rw [← HRV.out]; simp [betR, h1]
    have HE := Lib.hid e
    clear e
    go_wp2
    refine bodyPost_ret (v := rv) (by simp [results, Try.results32, go_sem, HE.out]) rfl ⟨rfl, HX.out⟩
  go_wp2_with fail
  refine (mean_isRange bl bd bh be _).mono ?_
  rintro e w2 ⟨rfl, hx2⟩
  have HX2 := Lib.hid (HX.out.trans hx2)
  have hb := HB.out.ext hx2
  have hc := HC.out.ext hx2
  clear c0 c1 c2 c3 cl hx2
  cases h2 : ranB ⟨⟨bl, bd⟩, ⟨bh, be⟩⟩
  · have e : rv = .tuple #[.bool false, .bool false, .int .i64 2] := by rw [← HRV.out]; simp [betR, h2]
    have HE := Lib.hid e
    clear e hb hc
    go_wp2
    refine bodyPost_ret (v := rv) (by simp [results, Try.results32, go_sem, HE.out]) rfl ⟨rfl, HX2.out⟩
  have e : rv = .tuple #[.bool (decide (0 < cmpW ⟨al, ad⟩ ⟨bh, be⟩)), .bool (decide (0 < cmpW ⟨ah, ae⟩ ⟨bl, bd⟩)), .int .i64 0] := by rw [← HRV.out]; simp [betR, h1, h2]
  have HE := Lib.hid e
  clear e
  have b0 := hb.cell 0 (v := .int .i64 al) rfl
  have b1 := hb.cell 1 (v := .int .i64 ad) rfl
  have b2 := hb.cell 2 (v := .int .i64 ah) rfl
  have b3 := hb.cell 3 (v := .int .i64 ae) rfl
  have bl' := hb.lt
  have c0 := hc.cell 0 (v := .int .i64 bl) rfl
  have c1 := hc.cell 1 (v := .int .i64 bd) rfl
  have c2 := hc.cell 2 (v := .int .i64 bh) rfl
  have c3 := hc.cell 3 (v := .int .i64 be) rfl
  have cl := hc.lt
  clear hb hc
  go_upto_region 3 with fail
  refine wp_region_later (by kernel_rfl) (by kernel_rfl) ?_
  repeat (go_big_quiet_step (first | with_reducible refine Calls.later (mean_compare al ad bh be _) | with_reducible refine Calls.later (mean_compare ah ae bl bd _)))
  refine wpQuiet_nil ?_
  intro w3 hw3
  obtain ⟨⟨w3, hx3⟩, rfl⟩ := hw3
  have HX3 := Lib.hid (HX2.out.trans hx3)
  clear hx3
  go_wp2
  refine bodyPost_ret (v := rv) (by simp [results, Try.results32, go_sem, HE.out]) rfl ⟨rfl, HX3.out⟩
end Go.Proofs.Ytmopadnkjlodnaa
