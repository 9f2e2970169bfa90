/-
  Package mean: Show.
-/
import Derived.Test.YtmopadnkjlodnaaMsp
namespace Go.Proofs.Ytmopadnkjlodnaa
open Go.RowKit Go.BigFrame
attribute [local go_sem] Oper.semAt_some Later.cell Later.frozen Lat.cell Lat.frozen NoX
structure ShwI (gin gout : Int) (beds : List Int) (xs : List Ex) (en : Int) (K4 : Nat) (w2 : World) (pre : List Sg) (W : World) : Prop where
  ex : ∃ v, Blk W K4 #[v] ∧ WaysAt W (w2.heap.size + 3) v (pre.foldl (shwT gin gout beds xs en) [])
  chg : Chg (· = K4) w2 W
theorem ShwI.abc {gin gout : Int} {beds : List Int} {xs : List Ex} {en : Int} {K4 : Nat} {w2 : World} (h1 : K4 < w2.heap.size) : AbC w2.heap.size (2 + 1) (ShwI gin gout beds xs en K4 w2) := by
  rintro pre A B row ⟨⟨v, a1, a2⟩, hc⟩ hg hr
  have hx := grown_chg hg
  exact ⟨⟨v, a1.chg hx (fun e => by have := hr _ e; omega), a2.chg hx (fun k hk e => by have := hr _ e; omega)⟩, chgm_grown hc hg (fun r e => (hr r e).1)⟩
set_option maxRecDepth 100000 in
set_option maxHeartbeats 8000000 in
theorem mean_Show (l : Leg) (en : Int) (ba sa : Option Addr) (bc sc : Nat) (w : World) (h : LegR l ba sa bc sc w) :
    Calls Try.prog 22 #[l.agg ba sa bc sc, .int .i64 en] w fun e w' => ∃ v, e = .returned (.tuple #[v, .int .i64 (shwS l en).2.1, .int .i64 (shwS l en).2.2]) ∧ WaysAt w' w.heap.size v (shwS l en).1 ∧ Ext w w' := by
  obtain ⟨RV, hRV⟩ : ∃ r, shwS l en = r := ⟨_, rfl⟩
  rw [hRV]
  refine (callsIn_wide (n := 8)).1 ?_
  have HRV := Lib.hid hRV
  have HL := Lib.hid h
  clear hRV h
  have HCK := Lib.hid (fun W (hx : Ext w W) => mean_Check l _ W (HL.out.ext hx).at)
  unfold Leg.agg at HCK ⊢
  refine callsIn_of_wp_marks Try.func22 rfl trivial ?_ rfl
  simp only [Try.ntmps22, List.size_toArray, List.length_cons, List.length_nil, Nat.reduceAdd, Nat.reduceSub, Array.replicate_succ, Array.replicate_zero, List.push_toArray, List.append_toArray, List.nil_append, List.cons_append]
  gi_upto_region 1 with fail
  generalize hw1 : World.alloc (World.alloc (World.alloc w _) _) _ = w1
  obtain ⟨B, hBB⟩ : ∃ y, y = w.heap.size := ⟨_, rfl⟩
  rw [← hBB]
  have hx1 : Ext w w1 := by rw [← hw1]; exact (((Ext.refl w).alloc _).alloc _).alloc _
  have H2 : Hid (Blk w1 B #[.int .i64 l.start, .int .i64 l.gin, .int .i64 l.gout, .slice ba l.beds.length bc, .slice sa l.scores.length sc, .bool l.won]) := Lib.hid (by rw [← hw1, hBB]; exact ((Blk.new w _ _).alloc _).alloc _)
  have H3 : Hid (Blk w1 (B + 1) #[.int .i64 en]) := Lib.hid (by rw [← hw1]; exact (Blk.at _ (by simp [hBB])).alloc _)
  have H4 : Hid (Blk w1 (B + 1 + 1) #[.slice none 0 0]) := Lib.hid (by rw [← hw1]; exact Blk.at _ (by simp [hBB]))
  have HX1 := Lib.hid hx1
  have HBB := Lib.hid hBB
  clear hw1 hx1 hBB
  have d0 := H2.out.cell 0 (v := .int .i64 l.start) rfl
  have d1 := H2.out.cell 1 (v := .int .i64 l.gin) rfl
  have d2 := H2.out.cell 2 (v := .int .i64 l.gout) rfl
  have d3 := H2.out.cell 3 (v := .slice ba l.beds.length bc) rfl
  have d4 := H2.out.cell 4 (v := .slice sa l.scores.length sc) rfl
  have d5 := H2.out.cell 5 (v := .bool l.won) rfl
  have dl := H2.out.lt
  gi_wp2_with fail
  refine ⟨trivial, (callsIn_wide.2 (HCK.out w1 HX1.out)).mono ?_⟩
  rintro e w2 ⟨rfl, hx2⟩
  have HX2 := Lib.hid hx2
  clear hx2 d0 d1 d2 d3 d4 d5 dl
  have HFAIL : Hid (∀ W3 a m, Chg (· = B + 1 + 1) w2 W3 → Blk W3 (B + 1 + 1) #[.slice none 0 0] → RV = ([], a, m) → Ext w W3) := Lib.hid (fun W3 a m hc hb _ => Chg.to_ext (HX1.out.trans HX2.out) hc (by rintro i rfl; have := HBB.out; omega))
  have f0 := (H4.out.ext HX2.out).cell 0 (v := .slice none 0 0) rfl
  have ff0 := (H4.out.ext HX2.out).frozen 0
  have fl0 := (H4.out.ext HX2.out).lt
  have g0 := (H3.out.ext HX2.out).cell 0 (v := .int .i64 en) rfl
  have gl0 := (H3.out.ext HX2.out).lt
  have HS0 := Lib.hid (one_set (H4.out.ext HX2.out) (.slice none 0 0))
  have HC0 := Lib.hid (one_chg (· = B + 1 + 1) w2 (b := B + 1 + 1) rfl (.slice none 0 0))
  cases hok : l.ok
  · have HE : Hid (RV = ([], 0, 2)) := Lib.hid (by rw [← HRV.out]; unfold shwS; rw [if_pos hok])
    rw [Leg.err_bad hok]
    gi_wp2
    have c0 := HS0.out.cell 0 (v := .slice none 0 0) rfl
    refine ret_m (v := .tuple #[.slice none 0 0, .int .i64 0, .int .i64 2]) rfl (by simp [results, Try.results22, go_sem, c0]) ⟨_, by rw [HE.out], by rw [HE.out]; exact WaysAt.nil _ _, HFAIL.out _ _ _ HC0.out HS0.out HE.out⟩
  rw [Leg.err_ok hok]
  have HOKL := Lib.hid hok
  by_cases he1 : en < 1
  · have HE : Hid (RV = ([], 0, 3)) := Lib.hid (by rw [← HRV.out]; unfold shwS; rw [if_neg (by rw [hok]; simp), if_pos (.inl he1)])
    gi_wp2
    have c0 := HS0.out.cell 0 (v := .slice none 0 0) rfl
    refine ret_m (v := .tuple #[.slice none 0 0, .int .i64 0, .int .i64 3]) rfl (by simp [results, Try.results22, go_sem, c0]) ⟨_, by rw [HE.out], by rw [HE.out]; exact WaysAt.nil _ _, HFAIL.out _ _ _ HC0.out HS0.out HE.out⟩
  by_cases he4 : 4 < en
  · have HE : Hid (RV = ([], 0, 3)) := Lib.hid (by rw [← HRV.out]; unfold shwS; rw [if_neg (by rw [hok]; simp), if_pos (.inr he4)])
    gi_wp2
    have c0 := HS0.out.cell 0 (v := .slice none 0 0) rfl
    refine ret_m (v := .tuple #[.slice none 0 0, .int .i64 0, .int .i64 3]) rfl (by simp [results, Try.results22, go_sem, c0]) ⟨_, by rw [HE.out], by rw [HE.out]; exact WaysAt.nil _ _, HFAIL.out _ _ _ HC0.out HS0.out HE.out⟩
  have HEN : Hid (RV = if (visR l.start l.gin l.gout l.beds l.scores l.won).2.2 = 0 then ((goT l.start l.scores l.won l.scores.length).foldl (shwT l.gin l.gout l.beds (visR l.start l.gin l.gout l.beds l.scores l.won).1 en) [], 0, 0) else ([], (visR l.start l.gin l.gout l.beds l.scores l.won).2.1, (visR l.start l.gin l.gout l.beds l.scores l.won).2.2)) := Lib.hid (by
    rw [← HRV.out]
    unfold shwS
    rw [if_neg (by rw [hok]; simp), if_neg (by omega)])
  have HOS := Lib.hid (Leg.ok_spec hok)
  have d0 := (H2.out.ext HX2.out).cell 0 (v := .int .i64 l.start) rfl
  have d1 := (H2.out.ext HX2.out).cell 1 (v := .int .i64 l.gin) rfl
  have d2 := (H2.out.ext HX2.out).cell 2 (v := .int .i64 l.gout) rfl
  have d3 := (H2.out.ext HX2.out).cell 3 (v := .slice ba l.beds.length bc) rfl
  have d4 := (H2.out.ext HX2.out).cell 4 (v := .slice sa l.scores.length sc) rfl
  have d5 := (H2.out.ext HX2.out).cell 5 (v := .bool l.won) rfl
  have dl := (H2.out.ext HX2.out).lt
  clear hok f0 ff0 fl0 HS0 HC0
  gi_wp2_with fail
  refine ⟨trivial, (callsIn_wide.2 (mean_newBoard l.start l.gin l.gout ba l.beds.length bc w2)).mono ?_⟩
  rintro e w3 ⟨kb, bf, rfl, hk1, hk2, hbk, hmp, hx3⟩
  have HBK := Lib.hid hbk
  have HMP := Lib.hid hmp
  have HK12 := Lib.hid (And.intro hk1 hk2)
  have HX3 := Lib.hid (HX2.out.trans hx3)
  clear hk1 hk2 hbk hmp hx3 d0 d1 d2 d3 d4 d5 dl g0 gl0
  gi_upto_region 7 with fail
  obtain ⟨w4, hw4⟩ : ∃ y, y = w3.alloc (.cells #[.pointer (some ⟨kb, 0, none⟩)] 104) := ⟨_, rfl⟩
  obtain ⟨k7, hk7⟩ : ∃ y, y = w3.heap.size := ⟨_, rfl⟩
  rw [← hw4, ← hk7]
  have HX34 : Hid (Ext w3 w4) := Lib.hid (by rw [hw4]; exact (Ext.refl w3).alloc _)
  have K7 : Hid (Blk w4 k7 #[.pointer (some ⟨kb, 0, none⟩)]) := Lib.hid (by rw [hw4, hk7]; exact Blk.new _ _ _)
  have HK7 := Lib.hid hk7
  clear hw4 hk7
  have HX4 := Lib.hid (HX3.out.trans HX34.out)
  have HXW4 := Lib.hid (HX1.out.trans HX4.out)
  have hvi := mean_visits l.start l.gin l.gout l.beds ba bc kb bf [] l.scores sa sc l.won w4 (HBK.out.ext HX34.out) (HL.out.beds.ext HXW4.out) (by have := HOS.out; omega) HOS.out.1 (by have := HOS.out; omega) ⟨HMP.out.ext HX34.out, fun x hx => by cases hx⟩ (HL.out.scores.ext HXW4.out) (by have := HOS.out; omega)
  obtain ⟨vr, hvr⟩ : ∃ y, visR l.start l.gin l.gout l.beds l.scores l.won = y := ⟨_, rfl⟩
  rw [hvr] at hvi HEN
  have HVR := Lib.hid hvr
  have HVI := Lib.hid hvi
  clear hvi hvr
  obtain ⟨xs, av, er⟩ := vr
  simp only at HVI HEN
  have d0 := (H2.out.ext HX4.out).cell 0 (v := .int .i64 l.start) rfl
  have d1 := (H2.out.ext HX4.out).cell 1 (v := .int .i64 l.gin) rfl
  have d2 := (H2.out.ext HX4.out).cell 2 (v := .int .i64 l.gout) rfl
  have d3 := (H2.out.ext HX4.out).cell 3 (v := .slice ba l.beds.length bc) rfl
  have d4 := (H2.out.ext HX4.out).cell 4 (v := .slice sa l.scores.length sc) rfl
  have d5 := (H2.out.ext HX4.out).cell 5 (v := .bool l.won) rfl
  have dl := (H2.out.ext HX4.out).lt
  have p0 := K7.out.cell 0 (v := .pointer (some ⟨kb, 0, none⟩)) rfl
  have pl := K7.out.lt
  gi_wp2_with fail
  refine ⟨trivial, (callsIn_wide.2 HVI.out).mono ?_⟩
  rintro e w5 ⟨v, fl', rfl, hv, hfm, hc5⟩
  obtain ⟨xa, xc, rfl⟩ := hv.shape
  have HV := Lib.hid hv
  have HC5 := Lib.hid hc5
  have HBF : Hid (w2.heap.size ≤ bf ∧ w2.heap.size ≤ kb ∧ ¬ kb = bf) := Lib.hid ⟨HK12.out.2, HK12.out.1, by
    rintro rfl
    obtain ⟨t, ht⟩ := HBK.out
    exact HMP.out.notCells ht⟩
  have HLT : Hid (B + 1 + 1 < w1.heap.size ∧ w1.heap.size ≤ w2.heap.size ∧ w2.heap.size ≤ w3.heap.size ∧ w3.heap.size ≤ k7 ∧ w.heap.size = B ∧ bf < w3.heap.size ∧ w4.heap.size ≤ w5.heap.size ∧ k7 < w4.heap.size) := Lib.hid (by
    have h1 := H4.out.lt
    have h2 := HX2.out.size
    have h3 := HK7.out
    have h4 := HBB.out
    have h5 := HMP.out.lt
    have h6 := hc5.size
    have h7 := K7.out.lt
    have h8 := HX3.out.size
    have h9 := HK12.out
    refine ⟨by omega, by omega, by omega, by omega, by omega, by omega, by omega, by omega⟩)
  clear hv hfm hc5 d0 d1 d2 d3 d4 d5 dl p0 pl HVI
  have HCW5 : Hid (Chg S0 w w5) := Lib.hid ((HXW4.out.chg S0).far HC5.out (fun j hj => .inr (by have h := HLT.out; have h2 := HBF.out; have h' : j = bf := hj; omega)))
  have nbf : ∀ {q cs}, Blk w4 q cs → Blk w5 q cs := fun {q cs} h => h.chg HC5.out (by
    rintro rfl
    obtain ⟨t, ht⟩ := h
    exact (HMP.out.ext HX34.out).notCells ht)
  have H25 := Lib.hid (nbf (H2.out.ext HX4.out))
  have H35 := Lib.hid (nbf (H3.out.ext HX4.out))
  have H45 := Lib.hid (nbf (H4.out.ext HX4.out))
  have H75 := Lib.hid (nbf K7.out)
  have HB5 := Lib.hid (nbf (HBK.out.ext HX34.out))
  clear nbf
  by_cases hr0 : er = 0
  · subst hr0
    have HE : Hid (RV = ((goT l.start l.scores l.won l.scores.length).foldl (shwT l.gin l.gout l.beds xs en) [], 0, 0)) := Lib.hid (by rw [HEN.out, if_pos rfl])
    have hvt := visR_to (start := l.start) (gin := l.gin) (gout := l.gout) (beds := l.beds) (scores := l.scores) (won := l.won) (by rw [HVR.out])
    have hav : av = 0 := by
      have h := (vis_to (gin := l.gin) (gout := l.gout) (beds := l.beds) (goT l.start l.scores l.won l.scores.length) [] [] (VisTo.nil _ _ _) (by have h := HVR.out; unfold visR at h; rw [h])).2
      have h2 := HVR.out
      unfold visR at h2
      rw [h2] at h
      exact h
    subst hav
    rw [HVR.out] at hvt
    have HVT := Lib.hid hvt
    clear hvt
    gi_upto_region 10 with fail
    obtain ⟨w6, hw6⟩ : ∃ y, y = w5.alloc (.cells #[.slice xa xs.length xc] 34) := ⟨_, rfl⟩
    obtain ⟨k8, hk8⟩ : ∃ y, y = w5.heap.size := ⟨_, rfl⟩
    rw [← hw6, ← hk8]
    have HX56 : Hid (Ext w5 w6) := Lib.hid (by rw [hw6]; exact (Ext.refl w5).alloc _)
    have K8 : Hid (Blk w6 k8 #[.slice xa xs.length xc]) := Lib.hid (by rw [hw6, hk8]; exact Blk.new _ _ _)
    have HK8 := Lib.hid hk8
    clear hw6 hk8
    have d0 := (H25.out.ext HX56.out).cell 0 (v := .int .i64 l.start) rfl
    have d1 := (H25.out.ext HX56.out).cell 1 (v := .int .i64 l.gin) rfl
    have d2 := (H25.out.ext HX56.out).cell 2 (v := .int .i64 l.gout) rfl
    have d3 := (H25.out.ext HX56.out).cell 3 (v := .slice ba l.beds.length bc) rfl
    have d4 := (H25.out.ext HX56.out).cell 4 (v := .slice sa l.scores.length sc) rfl
    have d5 := (H25.out.ext HX56.out).cell 5 (v := .bool l.won) rfl
    have dl := (H25.out.ext HX56.out).lt
    gi_wp2_with fail
    refine ⟨trivial, (callsIn_wide.2 (mean_goals l.start l.gin l.gout ba sa l.beds.length bc l.scores.length sc l.won w6)).mono ?_⟩
    rintro e wf ⟨B1, rfl, hB1, hb1, hxf⟩
    have HB1 := Lib.hid hb1
    have HXF := Lib.hid hxf
    have HWF : Hid (Chg S0 w wf) := Lib.hid ((HCW5.out.ext' HX56.out).ext' hxf)
    have HSZ : Hid (B + 1 + 1 < wf.heap.size ∧ B1 ≥ w6.heap.size ∧ B + 1 + 1 < w6.heap.size ∧ k8 < wf.heap.size ∧ w5.heap.size ≤ k8 ∧ w.heap.size ≤ wf.heap.size) := Lib.hid (by
      have h1 := HLT.out
      have h2 := HX56.out.size
      have h3 := hxf.size
      have h4 := K8.out.lt
      have h5 := HK8.out
      have h6 := HWF.out.size
      refine ⟨by omega, by omega, by omega, by omega, by omega, by omega⟩)
    clear hb1 hxf d0 d1 d2 d3 d4 d5 dl
    gi_wp2
    have HSEQ := Lib.hid (goals_seq (fun q => q = B + 1 + 1 ∨ wf.heap.size + 3 ≤ q) 7 l.start l.gin l.gout (.slice ba l.beds.length bc) l.scores sa sc l.won B1 wf ⟨_, _, _, rfl⟩ HB1.out ((HL.out.scores.below (fun q hq => .inr (by have h := HSZ.out; have h2 := HLT.out; omega))).keep (Kc.of_chg (HWF.out.mono (fun _ _ h => h.elim)))) (by have := HOS.out; omega) (by have h := HSZ.out; rintro q (rfl | h') <;> omega) (by have h := HSZ.out; have h2 := HB1.out.lt; omega))
    refine wpIn_rangeFunc_w (α := Sg) (by decide) (gf := 79) (fb := #[]) (lb := #[.pointer (some ⟨B1, 0, none⟩)]) rfl enters_goals1 HSEQ.out Kc.trans (fun W l o o' _ h ho _ => Kc.put _ W l o o' h ho) (fun _ => rfl)
      (ShwI l.gin l.gout l.beds xs en (B + 1 + 1) wf) (fun _ _ _ => False) (ShwI.abc (by have h := HSZ.out; omega)) (fun _ _ _ _ _ h => h.elim)
      ?hV ?h0 (fun x => VisA (fun k9 k10 => #[.agg #[.int .i64 l.start, .int .i64 l.gin, .int .i64 l.gout, .slice ba l.beds.length bc, .slice sa l.scores.length sc, .bool l.won], .int .i64 en, .pointer (some ⟨B, 0, none⟩), .pointer (some ⟨B + 1, 0, none⟩), .pointer (some ⟨B + 1 + 1, 0, none⟩), .int .i64 0, .int .i64 0, .pointer (some ⟨k7, 0, none⟩), .pointer (some ⟨k8, 0, none⟩), .pointer (some ⟨k9, 0, none⟩), .pointer (some ⟨k10, 0, none⟩), undef, undef, undef, undef, undef, undef, .bool false, .agg #[.int .i64 l.start, .int .i64 l.gin, .int .i64 l.gout, .slice ba l.beds.length bc, .slice sa l.scores.length sc, .bool l.won], .int .i64 0, .bool false, .bool (decide (4 < en)), .int .i64 en, .bool (decide (en < 1)), .int .i64 en, .bool (decide (4 < en)), .pointer (some ⟨B, 0, none⟩), .agg #[.int .i64 l.start, .int .i64 l.gin, .int .i64 l.gout], .pointer (some ⟨B, 3, none⟩), .slice ba l.beds.length bc, .agg #[.int .i64 l.start, .int .i64 l.gin, .int .i64 l.gout, .slice ba l.beds.length bc], .pointer (some ⟨kb, 0, none⟩), .tuple #[.slice xa xs.length xc, .int .i64 0, .int .i64 0], .pointer (some ⟨kb, 0, none⟩), .agg #[.int .i64 l.start, .int .i64 l.gin, .int .i64 l.gout, .slice ba l.beds.length bc, .slice sa l.scores.length sc, .bool l.won], .tuple #[.slice xa xs.length xc, .int .i64 0, .int .i64 0], .slice xa xs.length xc, .int .i64 0, .int .i64 0, .int .i64 0, .bool false, undef, undef, .agg #[.int .i64 l.start, .int .i64 l.gin, .int .i64 l.gout, .slice ba l.beds.length bc, .slice sa l.scores.length sc, .bool l.won], .func (.func 79) #[] #[.pointer (some ⟨B1, 0, none⟩)], .agg #[.int .i64 x.s.left, .bool x.s.inn], .agg #[.int .i64 x.g.score, .bool x.g.wins], undef, undef, undef, undef, undef, undef, undef, undef, undef, undef, undef, undef, undef, undef, undef, undef, undef, undef, undef, undef, undef, undef, undef, undef, undef, undef, undef, undef, undef, undef, undef, undef, undef, undef, undef]) wf.heap.size x) (fun x => VisA.abc _ _ x) ?assign ?body ?done (fun _ _ _ _ _ _ h => h.elim)
    case hV =>
      rintro pre x u A C row ⟨h1, h2⟩ hg hr
      exact ⟨h1, Nat.le_trans h2 hg.size⟩
    case h0 => exact ⟨⟨_, (H45.out.ext HX56.out).ext HXF.out, WaysAt.nil _ _⟩, Chg.refl _ _⟩
    case assign =>
      intro lp pre x W K hi hv hK
      have HI2 := Lib.hid hi
      have HV2 := Lib.hid hv
      have HKK := Lib.hid hK
      clear hi hv hK
      obtain ⟨⟨sl, si⟩, ⟨gs, gw⟩⟩ := x
      dsimp only [Sd.agg, Gl.agg]
      gi_wp2
      have hx : Ext W ((W.alloc (.cells #[.int .i64 sl, .bool si] 119)).alloc (.cells #[.int .i64 gs, .bool gw] 121)) := ((Ext.refl W).alloc _).alloc _
      have hvs := HV2.out.2
      obtain ⟨v, hv1, hv2⟩ := HI2.out.ex
      exact HKK.out _ _ (kf_chg (hx.chg S0) (fun k hk => hk.elim)) (Kc.of_ext hx) ⟨⟨v, hv1.ext hx, hv2.ext hx⟩, HI2.out.chg.ext' hx⟩ ⟨HV2.out.1, Nat.le_trans hvs hx.size⟩ ⟨_, _, rfl, hvs, by omega, (Blk.new _ _ _).alloc _, Blk.at _ (by simp)⟩
    case body =>
      rintro lp pre x a' W ⟨⟨v4, hb4, hwy⟩, hchg⟩ ⟨⟨k, hk, hpre, hx⟩, hsz⟩ ⟨k9, k10, rfl, hk9, hk10, hb9, hb10⟩
      obtain ⟨acc, hacc⟩ : ∃ y, pre.foldl (shwT l.gin l.gout l.beds xs en) [] = y := ⟨_, rfl⟩
      rw [hacc] at hwy
      have HNX : Hid ((pre ++ [x]).foldl (shwT l.gin l.gout l.beds xs en) [] = shwT l.gin l.gout l.beds xs en acc x) := Lib.hid (by rw [List.foldl_append, hacc]; rfl)
      have hal : acc.length < l.scores.length := by
        have h1 := shw_len l.gin l.gout l.beds xs en pre []
        rw [hacc] at h1
        have h2 : pre.length = k := by rw [hpre, goT_len]
        simp at h1
        omega
      have hsb := stT_bounds HVT.out HOS.out.1 (by have := HOS.out; omega) k (Nat.le_of_lt hk)
      obtain ⟨xe, hxe, -, hxb, -⟩ := span_bounds HVT.out HOS.out.1 (by have := HOS.out; omega) hal
      have hxd : xs.getD acc.length noEx = xe := by rw [List.getD_eq_getElem?_getD, hxe]; rfl
      obtain ⟨ds, hds⟩ : ∃ y, (wntS xe en).1 = y := ⟨_, rfl⟩
      obtain ⟨tr, htr⟩ : ∃ y, (wntS xe en).2 = y := ⟨_, rfl⟩
      have hdb := wnt_bounds (en := en) hxb
      have hdl := wnt_len xe en
      rw [hds] at hdb hdl
      have hwn := fun W' => mean_wanted xe en W'
      rw [hds, htr] at hwn
      have HWN := Lib.hid hwn
      have HFN : Hid (shwT l.gin l.gout l.beds xs en acc x = match fndS l.gin l.gout l.beds x tr ds with | some way => acc ++ [way] | none => acc) := Lib.hid (by unfold shwT; rw [hxd, hds, htr]; rfl)
      obtain ⟨⟨sl, si⟩, ⟨gs, gw⟩⟩ := x
      have hsl : 0 ≤ sl ∧ sl ≤ 2000 := by
        have h : sl = (stT l.start l.scores k).left := congrArg (fun y : Sg => y.s.left) hx
        have := HOS.out
        rw [h]
        omega
      obtain ⟨f, hf⟩ : ∃ f : Int → Option (List Int), f = fun d => srcF l.gin l.gout l.beds ⟨sl, si⟩ ⟨⟨gs, gw⟩, d, tr⟩ d.toNat ⟨sl, si, 0⟩ [] := ⟨_, rfl⟩
      have HFS : Hid (fndS l.gin l.gout l.beds ⟨⟨sl, si⟩, ⟨gs, gw⟩⟩ tr ds = ds.findSome? f) := Lib.hid (by rw [hf]; rfl)
      have HF := Lib.hid hf
      have HDB := Lib.hid hdb
      have HDL := Lib.hid hdl
      have HSL := Lib.hid hsl
      obtain ⟨xg, xc', exv, hxb2, hxl, hxcell⟩ := HV.out.at acc.length (by have h := HVT.out.len; rw [goT_len] at h; omega)
      obtain ⟨rfl, rfl⟩ : xa = some ⟨xg, 0, none⟩ ∧ xc = xc' := by cases exv; exact ⟨rfl, rfl⟩
      have hxi : acc.length < xs.length := by have h := HVT.out.len; rw [goT_len] at h; omega
      have hxe2 : xs[acc.length] = xe := by rw [List.getElem?_eq_getElem hxi] at hxe; exact Option.some.inj hxe
      rw [hxe2] at hxcell
      obtain ⟨va, vc, rfl⟩ := hwy.shape
      have HB4 := Lib.hid hb4
      have HWY := Lib.hid hwy
      have HCHG := Lib.hid hchg
      have HWS := Lib.hid hsz
      have HB9 := Lib.hid hb9
      have HB10 := Lib.hid hb10
      have HK9 := Lib.hid (And.intro hk9 hk10)
      have kW : ∀ {q cs}, Blk wf q cs → ¬ q = B + 1 + 1 → Blk W q cs := fun h hq => h.chg hchg hq
      have HW3 := Lib.hid (kW (((H35.out.ext HX56.out)).ext HXF.out) (by omega))
      have HW7 := Lib.hid (kW (((H75.out.ext HX56.out)).ext HXF.out) (by have h := HLT.out; omega))
      have HW8 := Lib.hid (kW (K8.out.ext HXF.out) (by have h := HSZ.out; have h1 := H45.out.lt; have h2 := HK8.out; omega))
      have HWK := Lib.hid (kW (((HB5.out.ext HX56.out)).ext HXF.out) (by have h := HLT.out; have h1 := HBF.out; omega))
      have hgn : ¬ xg = B + 1 + 1 := by have h := HLT.out; have h2 := HX34.out.size; omega
      have HXW : Hid (∀ (jj : Nat) (u : Value), xe.four[jj]? = some u → W.cell? ⟨xg, acc.length * 4 + jj, none⟩ = some u) := Lib.hid (fun jj u hu => hchg.cell (HXF.out.cell (HX56.out.cell (hxcell jj u hu))) hgn)
      have HXI := Lib.hid hxi
      have hlW : wf.heap.size ≤ W.heap.size := hchg.size
      have HLW := Lib.hid hlW
      have HCWW : Hid (Chg S0 w W) := Lib.hid (HWF.out.far hchg (fun j hj => .inr (by have h := HLT.out; have h' : j = B + 1 + 1 := hj; omega)))
      clear hacc hal hsb hxe hxb hxd hds htr hdb hdl hwn hf hsl exv hxb2 hxl hxcell hxi hxe2 hb4 hwy hchg hsz hb9 hb10 hk9 hk10 kW hgn hlW hk hpre hx
      have y0 : ∀ y : Lat NoX W, y.world.cell? ⟨k8, 0, none⟩ = some (.slice (some ⟨xg, 0, none⟩) xs.length xc) := fun y => (HW8.out.ext (Lat.ext0 y)).cell 0 rfl
      have y1 : ∀ y : Lat NoX W, y.world.cell? ⟨B + 1 + 1, 0, none⟩ = some (.slice va acc.length vc) := fun y => (HB4.out.ext (Lat.ext0 y)).cell 0 rfl
      have y2 : ∀ y : Lat NoX W, y.world.cell? ⟨B + 1, 0, none⟩ = some (.int .i64 en) := fun y => (HW3.out.ext (Lat.ext0 y)).cell 0 rfl
      have x0 : ∀ y : Lat NoX W, y.world.cell? ⟨xg, acc.length * 4, none⟩ = some (.int .i64 xe.dl) := fun y => (Lat.ext0 y).cell (HXW.out 0 _ rfl)
      have x1 : ∀ y : Lat NoX W, y.world.cell? ⟨xg, acc.length * 4 + 1, none⟩ = some (.int .i64 xe.dh) := fun y => (Lat.ext0 y).cell (HXW.out 1 _ rfl)
      have x2 : ∀ y : Lat NoX W, y.world.cell? ⟨xg, acc.length * 4 + 2, none⟩ = some (.int .i64 xe.tl) := fun y => (Lat.ext0 y).cell (HXW.out 2 _ rfl)
      have x3 : ∀ y : Lat NoX W, y.world.cell? ⟨xg, acc.length * 4 + 3, none⟩ = some (.int .i64 xe.th) := fun y => (Lat.ext0 y).cell (HXW.out 3 _ rfl)
      have yl0 := HW8.out.lt
      have yl1 := HB4.out.lt
      have yl2 := HW3.out.lt
      have yl3 : xg < W.heap.size := lt_of_cell (HXW.out 0 (.int .i64 xe.dl) rfl)
      have hxi := HXI.out
      gi_upto_region 13 with fail
      refine wpIn_lat_r lp (by kernel_rfl) (by kernel_rfl) NoX (fun k => k == 6) (WntR ds.length tr) (WntG ds tr W.heap.size) (by kernel_rfl)
        (fun k hk => by
          have : k = 6 := by simpa using hk
          subst this
          decide)
        (fun L L' u w' h hg => ⟨fun e => hg.r6 (by rw [← h 6 (by rfl)]; exact e)⟩) (fun L u a b h hx => h.ext hx) (fun _ => .tuple #[.slice none ds.length 0, .int .i64 tr]) (fun k _ => ⟨none, 0, fun _ => rfl⟩) ⟨fun h => (by cases h)⟩ ?_
      intro T hT hne2 u hu
      obtain ⟨da, dc, e6⟩ := hu 6 rfl
      replace e6 := e6 rfl
      refine lx_next 6 (by rfl) (by decide) ?_
      dsimp only [List.take, List.drop]
      repeat (go_big_quiet_step (fail))
      refine wpQuiet_nil ?_
      refine lx_loud (by rfl) (by kernel_rfl) ?_ (fun K hK => ?_)
      · intro L w4 hL hd hcl hC hs
        obtain ⟨y, rfl⟩ := hC
        have hys := y.size
        clear hs hL hd hcl
        go_wp2_with fail
        refine (HWN.out y.world).mono ?_
        rintro e w5' ⟨v, rfl, ho, hx⟩
        obtain ⟨oa, oc, rfl⟩ := ho.shape
        go_wp2
        exact ⟨⟨_, _, fun _ => rfl⟩, ⟨y.ext hx, rfl⟩, ⟨fun _ => ⟨_, rfl, own_mono ho hys⟩⟩⟩
      rw [e6]
      go_simp
      with_reducible refine hK _ ?_
      clear hK K
      refine lx_next 5 (by rfl) (by decide) ?_
      dsimp only [List.take, List.drop]
      repeat (go_big_quiet_step (fail))
      refine wpQuiet_nil ?_
      refine lx_nil ?_
      intro y hs
      obtain ⟨v, ev, hv6⟩ := hs.r6 rfl
      obtain rfl : v = .slice da ds.length dc := by have h := ev.symm.trans e6; cases h; rfl
      have HDS := Lib.hid hv6
      have HX9 := Lib.hid (Lat.ext0 y)
      clear hs hv6 ev e6 hu hT hne2 y0 y1 y2 x0 x1 x2 x3 yl0 yl1 yl2 yl3 hxi
      generalize y.world = w9 at *
      clear y
      gi_wp2
      have HFIN : Hid (∀ W9 ws va2 vc2, Ext w9 W9 → ws = shwT l.gin l.gout l.beds xs en acc ⟨⟨sl, si⟩, ⟨gs, gw⟩⟩ → (Blk W9 (B + 1 + 1) #[.slice va2 ws.length vc2] → WaysAt W9 (wf.heap.size + 3) (.slice va2 ws.length vc2) ws → KeepsFrom wf.heap.size W W9 ∧ Kc (fun q => q = B + 1 + 1 ∨ wf.heap.size + 3 ≤ q) W W9 ∧ ShwI l.gin l.gout l.beds xs en (B + 1 + 1) wf (pre ++ [⟨⟨sl, si⟩, ⟨gs, gw⟩⟩]) W9)) := Lib.hid (fun W9 ws va2 vc2 hx9 hws hb hw => by
        have hxx : Chg S0 W W9 := ((HX9.out.trans hx9).chg _)
        exact ⟨kf_chg hxx (fun _ h => h.elim), (Kc.of_chg hxx).mono (fun _ h => h.elim), ⟨_, hb, by rw [HNX.out, ← hws]; exact hw⟩, HCHG.out.ext' (HX9.out.trans hx9)⟩)
      gi_loopw [59] (fun i wr => ∃ j : Nat, j ≤ ds.length ∧ i = .int .i64 j ∧ (ds.take j).findSome? f = none ∧ Ext w9 wr) (fun i _ => ds.length - (intOf i).toNat)
      case atStart => exact ⟨0, Nat.zero_le _, rfl, rfl, Ext.refl _⟩
      case round =>
        obtain ⟨j, hj, rfl, hno, hxr⟩ := hrel
        have HNO := Lib.hid hno
        have HXR := Lib.hid hxr
        clear hno hxr
        by_cases hlt : j < ds.length
        · have hrd := (HDS.out.ext HXR.out).cells
          obtain ⟨oa, oc, ev, hcl⟩ := hrd
          obtain ⟨rfl, rfl⟩ : da = oa ∧ dc = oc := by cases ev; exact ⟨rfl, rfl⟩
          obtain ⟨bb, bo, rfl, c0⟩ := hcl j hlt
          have c1 := lt_of_cell c0
          simp only at c1
          obtain ⟨dj, hdj⟩ : ∃ y, ds[j] = y := ⟨_, rfl⟩
          have hdm := HDB.out dj (by rw [← hdj]; exact List.getElem_mem hlt)
          have HTK : Hid (ds.take (j + 1) = ds.take j ++ [dj]) := Lib.hid (by rw [List.take_succ_eq_append_getElem hlt, hdj])
          rw [hdj] at c0
          have HDM := Lib.hid hdm
          have HXWR := Lib.hid (HX9.out.trans HXR.out)
          have hnt : ((dj.toNat : Nat) : Int) = dj := Int.toNat_of_nonneg (by omega)
          have hsr := mean_search l.start l.gin l.gout l.beds ⟨sl, si⟩ ⟨⟨gs, gw⟩, dj, tr⟩ ba bc kb bf (by have := HOS.out; omega) HOS.out.1 HSL.out (by show dj ≤ 100; omega) dj.toNat ⟨sl, si, 0⟩ [] none 0 wr (by show ((0 : Nat) : Int) + _ = dj; omega) (by omega) ⟨HSL.out.1, Int.le_refl _⟩ ⟨Int.le_refl _, by show (0 : Int) + _ ≤ _; omega⟩ (HWK.out.ext HXWR.out) ((HL.out.beds.keep (Kc.of_chg HCWW.out)).ext HXWR.out) (.inl ⟨rfl, rfl⟩)
          obtain ⟨fj, hfj⟩ : ∃ y, f dj = y := ⟨_, rfl⟩
          have hfj2 := hfj
          rw [HF.out] at hfj2
          dsimp only at hfj2
          rw [hfj2] at hsr
          have HFJ := Lib.hid hfj
          unfold Sd.agg Nw.agg Wt.cells at hsr
          simp only at hsr
          have HSR := Lib.hid hsr
          clear hsr hfj hfj2 hdj hdm hnt ev hcl
          have p0 := (HW7.out.ext HXWR.out).cell 0 (v := .pointer (some ⟨kb, 0, none⟩)) rfl
          have pl := (HW7.out.ext HXWR.out).lt
          have q0 := (HB9.out.ext HXWR.out).cell 0 (v := .int .i64 sl) rfl
          have q1 := (HB9.out.ext HXWR.out).cell 1 (v := .bool si) rfl
          have ql := (HB9.out.ext HXWR.out).lt
          have r0 := (HB10.out.ext HXWR.out).cell 0 (v := .int .i64 gs) rfl
          have r1 := (HB10.out.ext HXWR.out).cell 1 (v := .bool gw) rfl
          have rl := (HB10.out.ext HXWR.out).lt
          gi_wp2_with fail
          refine ⟨trivial, CallsIn.inRound lp ((callsIn_wide.2 HSR.out).mono ?_)⟩
          rintro e w8 ⟨hsa, hx8⟩
          have HX8 := Lib.hid hx8
          clear hx8 p0 pl q0 q1 ql r0 r1 rl c0 c1
          cases fj with
          | none =>
            have hsa : e = .returned (.tuple #[.slice none 0 0, .bool false]) := hsa
            subst hsa
            have hdl3 := HDL.out
            gi_wp2
            go_roundw
            case rel => exact ⟨j + 1, by omega, by go_num, by rw [HTK.out, List.findSome?_append, HNO.out]; simp [HFJ.out], HXR.out.trans HX8.out⟩
            case measure => simp [intOf]; omega
          | some way =>
            obtain ⟨ra, rc, hsa, hown⟩ : ∃ a m, e = .returned (.tuple #[.slice a way.length m, .bool true]) ∧ OwnD w8 wr.heap.size (.slice a way.length m) way := hsa
            subst hsa
            have HOW : Hid (OwnD w8 (wf.heap.size + 3) (.slice ra way.length rc) way) := Lib.hid (own_mono hown (by have h1 := HWS.out; have h2 := HXWR.out.size; omega))
            have HX98 := Lib.hid (HXR.out.trans HX8.out)
            have HXW8 := Lib.hid (HX9.out.trans HX98.out)
            have HSH : Hid (acc ++ [way] = shwT l.gin l.gout l.beds xs en acc ⟨⟨sl, si⟩, ⟨gs, gw⟩⟩) := Lib.hid (by
              rw [HFN.out, HFS.out]
              have h : ds.findSome? f = some way := by
                rw [← List.take_append_drop (j + 1) ds, HTK.out, List.findSome?_append, List.findSome?_append, HNO.out]
                simp [HFJ.out]
              rw [h])
            have HB48 := Lib.hid (HB4.out.ext HXW8.out)
            have HWY8 := Lib.hid (HWY.out.ext HXW8.out)
            clear hown
            obtain ⟨vals, hv1, hv2, hv3⟩ := HWY8.out
            have HV1 := Lib.hid hv1
            have HV23 := Lib.hid (And.intro hv2 hv3)
            obtain ⟨i0, hi0, hz0, hz1, hz2⟩ := info_parts info_beds
            have hlen : acc.length ≤ 1000 := by have h1 := HXI.out; have h2 := HVT.out.len; rw [goT_len] at h2; have h3 := HOS.out; omega
            have s0 := HB48.out.cell 0 (v := .slice va acc.length vc) rfl
            have sl0 := HB48.out.lt
            have sf0 := HB48.out.frozen 0
            clear hv1 hv2 hv3
            gi_wp2_with (refine wpListIn_append_own_at _ rfl _ _ 46 rfl (wf.heap.size + 3) 25 i0 _ 1 24 (by kernel_rfl) hi0 hz0 hz1 hz2 rfl (by decide) _ acc.length vals rfl (own_chg HV1.out (((Ext.refl w8).alloc _).chg fun _ => False) fun _ _ => id) ⟨w8.heap.size, 0, none⟩ 1 1 [.slice ra way.length rc] rfl rfl ?_ ?_ (by unfold maxLen; omega) (by omega) ?_ ?_)
            · intro jj u hu
              match jj, hu with
              | 0, hu => cases hu; rw [addr_add]; exact (Blk.new w8 _ _).cell 0 rfl
            · intro u hu
              cases hu with
              | head => rfl
              | tail _ h => cases h
            · have h1 := HWS.out
              have h2 := HXW8.out.size
              simp
              omega
            intro v' w10 ho10 hg10 _ hat
            have hX10 : Chg (fun q => (Value.slice va acc.length vc).ownBlock = some q) w8 w10 := ((((Ext.refl w8).alloc _).chg _)).trans (grown_chg hg10)
            have hw10 : WaysAt w10 (wf.heap.size + 3) v' (acc ++ [way]) := WaysAt.snoc HV1.out HV23.out.1 HV23.out.2 HOW.out ho10 hX10
            have hob : ∀ q, (Value.slice va acc.length vc).ownBlock = some q → wf.heap.size + 3 ≤ q ∧ ∃ cs, Blk w8 q cs := by
              intro q hq
              obtain ⟨cs, hcs⟩ := own_type HV1.out hq
              exact ⟨(World.ownsRow.lt HV1.out q hq).1, cs, _, hcs⟩
            have hb410 : Blk w10 (B + 1 + 1) #[.slice va acc.length vc] := HB48.out.chg hX10 (fun e => by have h1 := (hob _ e).1; have h2 := HSZ.out; omega)
            obtain ⟨va', vc', ev⟩ := hw10.shape
            rw [show (acc ++ [way]).length = acc.length + 1 by simp] at ev
            subst ev
            have HW10 := Lib.hid hw10
            have HB410 := Lib.hid hb410
            have HX10 := Lib.hid hX10
            have HOB := Lib.hid hob
            have s0 := hb410.cell 0 (v := .slice va acc.length vc) rfl
            have sl0 := hb410.lt
            have sf0 := hb410.frozen 0
            clear hw10 hb410 hX10 hob hg10 hat hi0 hz0 hz1 hz2 ho10
            gi_wp2
            have hset := one_set HB410.out (.slice va' (acc.length + 1) vc')
            have hc := one_chg (· = B + 1 + 1) w10 (b := B + 1 + 1) rfl (.slice va' (acc.length + 1) vc')
            have hxx : Chg S0 W w8 := (HXW8.out.chg _)
            have hsz := HSZ.out
            refine ⟨(kf_chg hxx (fun _ h => h.elim)).trans ((kf_cells HX10.out (fun q hq => (HOB.out q hq).2)).trans (kf_chg hc (by rintro q rfl; omega))), (((Kc.of_chg hxx).mono (fun _ h => h.elim)).trans (Kc.of_chg (HX10.out.mono (fun q _ h => .inr (HOB.out q h).1)))).trans (Kc.of_chg (hc.mono (fun q _ h => .inl h))), ⟨_, hset, by rw [HNX.out, ← HSH.out]; exact HW10.out.chg hc (fun q hq e => by have e' : q = B + 1 + 1 := e; omega)⟩, ?_⟩
            refine (((HCHG.out.ext' HXW8.out)).far HX10.out (fun q hq => .inr ?_)).trans hc
            have := (HOB.out q hq).1
            omega
        · obtain rfl : ds.length = j := by omega
          have hno : fndS l.gin l.gout l.beds ⟨⟨sl, si⟩, ⟨gs, gw⟩⟩ tr ds = none := by rw [HFS.out]; have h := HNO.out; rwa [List.take_length] at h
          have HSH : Hid (acc = shwT l.gin l.gout l.beds xs en acc ⟨⟨sl, si⟩, ⟨gs, gw⟩⟩) := Lib.hid (by rw [HFN.out, hno])
          clear hno
          gi_wp2
          exact HFIN.out wr acc va vc HXR.out HSH.out (HB4.out.ext (HX9.out.trans HXR.out)) (HWY.out.ext (HX9.out.trans HXR.out))
    case done =>
      rintro D pre W hD rfl ⟨⟨v4, hb4, hwy⟩, hchg⟩ hdf
      obtain ⟨ws, hws⟩ : ∃ y, (goT l.start l.scores l.won l.scores.length).foldl (shwT l.gin l.gout l.beds xs en) [] = y := ⟨_, rfl⟩
      rw [hws] at hwy HE
      obtain ⟨va, vc, rfl⟩ := hwy.shape
      have HDF := Lib.hid hdf
      have HWY := Lib.hid hwy
      have HB4 := Lib.hid hb4
      have HCHG := Lib.hid hchg
      have f0 := hb4.cell 0 (v := .slice va ws.length vc) rfl
      have fl0 := hb4.lt
      have ff0 := hb4.frozen 0
      clear hdf hwy hb4 hchg hws
      dsimp only
      gi_wp2
      have hset := one_set HB4.out (.slice va ws.length vc)
      have hc := one_chg (· = B + 1 + 1) W (b := B + 1 + 1) rfl (.slice va ws.length vc)
      generalize World.setCell _ _ _ = W3 at hset hc ⊢
      have hsz := HSZ.out
      have hmk : Marks wf.heap.size W3 [D] := Marks.one hD (hc.heap HDF.out (fun e => by have e' : D = B + 1 + 1 := e; omega))
      show LeavesInM _ _ _ _ _ _ ([D].map markOf) .returning _
      refine ret_mN (v := .tuple #[.slice va ws.length vc, .int .i64 0, .int .i64 0]) (lo := wf.heap.size) (w := W3) [D] W3 .refl hmk ?_
      intro W' hsh
      have c0 := (hsh.blk hset).cell 0 (v := .slice va ws.length vc) rfl
      refine ⟨by simp [results, Try.results22, go_sem, c0], _, by rw [HE.out], ?_, ?_⟩
      · rw [HE.out]
        have h := HWY.out.chg hc (fun q hq e => by have e' : q = B + 1 + 1 := e; omega)
        obtain ⟨vals, h1, h2, h3⟩ := h
        exact WaysAt.mono ⟨vals, hsh.own h1, h2, fun i hi => let ⟨a, c, h4, h5⟩ := h3 i hi; ⟨a, c, h4, hsh.own h5⟩⟩ (by omega)
      · exact Chg.to_ext (Ext.refl w) (hsh.chg (((HWF.out.mono (T := fun q => w.heap.size ≤ q) (fun _ _ h => h.elim)).trans (HCHG.out.mono (fun q _ h => by have h2 := HLT.out; have h' : q = B + 1 + 1 := h; show w.heap.size ≤ q; omega))).trans (hc.mono (fun q _ h => by have h2 := HLT.out; have h' : q = B + 1 + 1 := h; show w.heap.size ≤ q; omega))) (by omega)) (fun _ h => h)
  · have HE : Hid (RV = ([], av, er)) := Lib.hid (by rw [HEN.out, if_neg hr0])
    have f0 := H45.out.cell 0 (v := .slice none 0 0) rfl
    have ff0 := H45.out.frozen 0
    have fl0 := H45.out.lt
    gi_wp2
    generalize hW : World.alloc _ _ = W3
    have hq : Blk W3 (B + 1 + 1) #[.slice none 0 0] := by rw [← hW]; exact (one_set H45.out (.slice none 0 0)).alloc _
    have hc : Chg (· = B + 1 + 1) w5 W3 := by rw [← hW]; exact (one_chg (· = B + 1 + 1) w5 (b := B + 1 + 1) rfl (.slice none 0 0)).alloc _
    have c0 := hq.cell 0 (v := .slice none 0 0) rfl
    refine ret_m (v := .tuple #[.slice none 0 0, .int .i64 av, .int .i64 er]) rfl (by simp [results, Try.results22, go_sem, c0]) ⟨_, by rw [HE.out], by rw [HE.out]; exact WaysAt.nil _ _, ?_⟩
    exact Chg.to_ext (Ext.refl w) ((HCW5.out.mono (T := fun q => w.heap.size ≤ q) (fun _ _ h => h.elim)).trans (hc.mono (fun q _ h => by have h2 := HLT.out; have h' : q = B + 1 + 1 := h; show w.heap.size ≤ q; omega))) (fun _ h => h)
end Go.Proofs.Ytmopadnkjlodnaa
