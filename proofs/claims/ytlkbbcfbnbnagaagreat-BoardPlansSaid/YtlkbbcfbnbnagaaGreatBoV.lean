/-
  Package board: best.
-/
import Derived.Test.YtlkbbcfbnbnagaaGreatBoU
namespace Go.Proofs.YtlkbbcfbnbnagaaGreat
open Go.RowKit Go.Shelf
attribute [local go_sem] Oper.semAt_some Later.cell Later.frozen
theorem enters_best1 : Enters Tryz.prog 53 := enters_of Tryz.func53 (by kernel_rfl) rfl
theorem RdI.sub {S S' : Nat → Prop} {W : World} {v : Value} {xs : List Int} (h : RdI S W v xs) (hs : ∀ b, b < W.heap.size → ¬ S b → ¬ S' b) : RdI S' W v xs := by
  rcases h with h | ⟨b, o, c, cs, t, f, h1, h2, h3, h4, h5, h6⟩
  · exact .inl h
  · exact .inr ⟨b, o, c, cs, t, f, h1, h2, h3, hs b (Array.getElem?_eq_some_iff.1 h5).1 h4, h5, h6⟩
theorem WksAt.sub {S S' : Nat → Prop} {W : World} {v : Value} {wks : List (List Int)} (h : WksAt S W v wks) (hs : ∀ b, b < W.heap.size → ¬ S b → ¬ S' b) : WksAt S' W v wks := by
  obtain ⟨a, c, h1, h2, h3, h4⟩ := h
  refine ⟨a, c, h1, h2, h3, fun i hi => ?_⟩
  obtain ⟨b, o, cs, t, f, u, e1, e2, e3, e4, e5⟩ := h4 i hi
  exact ⟨b, o, cs, t, f, u, e1, hs b (Array.getElem?_eq_some_iff.1 e3).1 e2, e3, e4, e5.sub hs⟩
def BestPre (S : Nat → Prop) (n : Nat) (W : World) (b : Nat) (pre : List Pl) : Prop := BestAt S n W b (bestL (pre.map plOf))
theorem BestPre.snoc {S : Nat → Prop} {n : Nat} {W : World} {b : Nat} {pre : List Pl} {x : Pl} (h : BestAt S n W b (bestStep (bestL (pre.map plOf)) (x.turns, x.worn))) : BestPre S n W b (pre ++ [x]) := by
  unfold BestPre
  rw [List.map_append, List.map_cons, List.map_nil, bestL_snoc]; exact h
abbrev S0 : Nat → Prop := fun _ => False
theorem bestL_none {l : List (List Int × List Int)} (h : bestL l = none) : l = [] := by
  rcases List.eq_nil_or_concat l with e | ⟨l', p, rfl⟩
  · exact e
  · exfalso
    rw [List.concat_eq_append, bestL_snoc] at h
    unfold bestStep at h
    split at h
    · cases h
    · split at h <;> cases h
theorem afterL_len (u wk : List Int) (k : Nat) (h : wk.length = u.length) (hk : k ≤ u.length) : (afterL u wk k).length = u.length := by
  unfold afterL addL
  rw [List.length_zipWith, turnL_len wk k (by omega), h, Nat.min_self]
theorem plansL_ne : ∀ (wks : List (List Int)) (t u : List Int), 0 < u.length → wksOk u.length wks → plansL wks t u ≠ []
  | [], _, _, _, _ => by simp [plansL]
  | wk :: rest, t, u, h, hok => by
    intro he
    have h1 := plansL_ne rest (t ++ [((0 : Nat) : Int)]) (afterL u wk 0) (by rw [afterL_len u wk 0 (hok wk (by simp)).1 (by omega)]; exact h) (by rw [afterL_len u wk 0 (hok wk (by simp)).1 (by omega)]; exact fun y hy => hok y (by simp [hy]))
    have h2 := List.flatMap_eq_nil_iff.1 he 0 (List.mem_range.2 h)
    exact h1 h2
set_option maxRecDepth 100000 in
set_option maxHeartbeats 2000000 in
theorem brd_best (n : Nat) (worn : List Int) (wks : List (List Int)) (wa ka : Option Addr) (wc kc : Nat) (w : World) (hn : 0 < n ∧ n ≤ 1000)
    (hw : RdI S0 w (.slice wa worn.length wc) worn) (hwl : worn.length = n) (hfew : wks.length ≤ 100) (hb : ∀ y ∈ worn, 0 ≤ y ∧ y + 1000000000 * wks.length ≤ 1000000000000) (hok : wksOk n wks) (hk : WksAt S0 w (.slice ka wks.length kc) wks) :
    Calls Tryz.prog 31 #[.slice wa worn.length wc, .slice ka wks.length kc] w fun e w' => ∃ t u p, e = .returned (.agg #[t, u]) ∧ bestL (plansL wks [] worn) = some p ∧ RdI S0 w' t p.1 ∧ RdI S0 w' u p.2 ∧ p.2.length = n ∧ Ext w w' := by
  refine (callsIn_wide (n := 8)).1 ?_
  have HW := Lib.hid hw
  have HK := Lib.hid hk
  have HWL := Lib.hid hwl
  have HB := Lib.hid hb
  obtain ⟨kn, hkn⟩ : ∃ kn, wks.length = kn := ⟨_, rfl⟩
  have HKN := Lib.hid hkn
  rw [hwl, hkn]
  clear hw hk hwl hb hkn
  refine callsIn_of_wp_marks Tryz.func31 rfl trivial ?_ rfl
  simp only [Tryz.ntmps31, List.size_toArray, List.length_cons, List.length_nil, Nat.reduceAdd, Nat.reduceSub, Array.replicate_succ, Array.replicate_zero, List.push_toArray, List.append_toArray, List.nil_append, List.cons_append]
  gi_wp2_with fail
  obtain ⟨w3, hw3⟩ : ∃ x, x = ((w.alloc (.cells #[.slice wa n wc] 24)).alloc (.cells #[.slice ka kn kc] 27)).alloc (.cells #[.slice none 0 0, .slice none 0 0] 78) := ⟨_, rfl⟩
  rw [← hw3]
  have hx3 : Ext w w3 := by rw [hw3]; exact (((Ext.refl w).alloc _).alloc _).alloc _
  have hsz : w3.heap.size = w.heap.size + 1 + 1 + 1 := by rw [hw3]; simp
  have hb2 : Blk w3 w.heap.size #[.slice wa n wc] := by rw [hw3]; exact ((Blk.new _ _ _).alloc _).alloc _
  have hb3 : Blk w3 (w.heap.size + 1) #[.slice ka kn kc] := by rw [hw3]; exact (Blk.at _ (by simp)).alloc _
  have hb4 : Blk w3 (w.heap.size + 1 + 1) #[.slice none 0 0, .slice none 0 0] := by rw [hw3]; exact Blk.at _ (by simp)
  obtain ⟨S, hS⟩ : ∃ S : Nat → Prop, S = (· = w.heap.size + 1 + 1) := ⟨_, rfl⟩
  have hSl : ∀ k, S k → w.heap.size + 1 + 1 ≤ k := by intro k h; rw [hS] at h; omega
  have hSb : S (w.heap.size + 1 + 1) := by rw [hS]
  have hseq : SeqV 7 Tryz.prog 53 #[.pointer (some ⟨w.heap.size, 0, none⟩), .pointer (some ⟨w.heap.size + 1, 0, none⟩)] (fun x : Pl => #[x.agg]) (fun _ => PlV S n 0) (Kc S) (fun xs => xs.map plOf = plansL wks [] worn) w3 :=
    best1_seq 7 w.heap.size (w.heap.size + 1) n S worn wks wa ka n wc kn kc w3 hn (fun k h => by rw [hS] at h; omega) hb2 hb3 (fun h => by have := hSl _ h; omega) (fun h => by have := hSl _ h; omega)
      (by have h := HW.out; rw [HWL.out] at h; exact (h.sub (S' := S) (fun b hb _ hs => by have := hSl _ hs; omega)).keep (.of_ext hx3)) HWL.out hfew HB.out hok
      (by have h := HK.out; rw [HKN.out] at h; exact (h.sub (S' := S) (fun b hb _ hs => by have := hSl _ hs; omega)).keep (.of_ext hx3))
  have HSEQ := Lib.hid hseq
  have HX3 := Lib.hid hx3
  have HB4 := Lib.hid hb4
  clear hS hw3 hseq hx3 hb2 hb3 hb4
  refine wpIn_rangeFunc_v (α := Pl) (by decide) (gf := 53) (lb := #[.pointer (some ⟨w.heap.size, 0, none⟩), .pointer (some ⟨w.heap.size + 1, 0, none⟩)]) rfl enters_best1 HSEQ.out Kc.trans (fun W l o o' _ h ho _ => Kc.put S W l o o' h ho) (fun _ => rfl)
    (fun pre W => BestPre S n W (w.heap.size + 1 + 1) pre ∧ Chg S w3 W) ?hI ?hV ?h0
    (fun x a' W => ∃ pb, w3.heap.size ≤ pb ∧ Blk W pb #[x.tv, x.wv] ∧ a' = { tmps := #[.slice wa n wc, .slice ka kn kc, .pointer (some ⟨w.heap.size, 0, none⟩), .pointer (some ⟨w.heap.size + 1, 0, none⟩), .pointer (some ⟨w.heap.size + 1 + 1, 0, none⟩), .func (.func 53) #[] #[.pointer (some ⟨w.heap.size, 0, none⟩), .pointer (some ⟨w.heap.size + 1, 0, none⟩)], .pointer (some ⟨pb, 0, none⟩), .func (.func 53) #[] #[.pointer (some ⟨w.heap.size, 0, none⟩), .pointer (some ⟨w.heap.size + 1, 0, none⟩)], .func (.func 53) #[] #[.pointer (some ⟨w.heap.size, 0, none⟩), .pointer (some ⟨w.heap.size + 1, 0, none⟩)], x.agg, undef, undef, undef, undef, undef, undef, undef, undef, undef, undef, undef, undef], defers := [] }) ?hAx ?assign ?body ?done
  case hI =>
    rintro pre A B row ⟨h1, h2⟩ hg hr
    exact ⟨BestAt.keep h1 (Kc.grown hg fun r e => (hr r e).2), h2.grown hg fun k e => (hr k e).1⟩
  case hV =>
    rintro pre x u A B row h1 hg hr
    exact h1.keep (Kc.grown hg fun r e => (hr r e).2)
  case h0 => exact ⟨⟨_, _, HB4.out, .inl ⟨rfl, rfl, rfl⟩⟩, Chg.refl _ _⟩
  case hAx =>
    rintro x a' u A B row ⟨pb, h1, h2, h3⟩ hg hr
    exact ⟨pb, h1, (Kc.grown (S := S0) hg fun r e => (hr r e).2).blk h2 id, h3⟩
  case assign =>
    intro l pre x W K hi hv hK
    obtain ⟨turns, worn', tv, wv⟩ := x
    obtain ⟨ta, tc, e1, -⟩ := hv.t.cells
    obtain ⟨ua, uc, e2, -⟩ := hv.w.cells
    simp only at e1 e2
    subst e1
    subst e2
    generalize htl : Value.slice ta turns.length tc = tv at *
    generalize hul : Value.slice ua worn'.length uc = wv at *
    have hB0 : Blk (W.alloc (.cells #[tv, wv] 78)) W.heap.size #[tv, wv] := Blk.new _ _ _
    have hX := (Ext.refl W).alloc (.cells #[tv, wv] 78)
    have hCh := hi.2
    have hsw := hCh.size
    have HK2 := Lib.hid (hK { tmps := #[.slice wa n wc, .slice ka kn kc, .pointer (some ⟨w.heap.size, 0, none⟩), .pointer (some ⟨w.heap.size + 1, 0, none⟩), .pointer (some ⟨w.heap.size + 1 + 1, 0, none⟩), .func (.func 53) #[] #[.pointer (some ⟨w.heap.size, 0, none⟩), .pointer (some ⟨w.heap.size + 1, 0, none⟩)], .pointer (some ⟨W.heap.size, 0, none⟩), .func (.func 53) #[] #[.pointer (some ⟨w.heap.size, 0, none⟩), .pointer (some ⟨w.heap.size + 1, 0, none⟩)], .func (.func 53) #[] #[.pointer (some ⟨w.heap.size, 0, none⟩), .pointer (some ⟨w.heap.size + 1, 0, none⟩)], .agg #[tv, wv], undef, undef, undef, undef, undef, undef, undef, undef, undef, undef, undef, undef], defers := [] } _ (hX.others.from _) (.of_ext hX)
      ⟨BestAt.keep hi.1 (.of_ext hX), hCh.ext' hX⟩ (hv.keep (.of_ext hX)) ⟨W.heap.size, hsw, hB0, rfl⟩)
    clear hK hi hv hCh
    unfold Pl.agg
    simp only
    subst htl
    subst hul
    gi_wp2
    exact HK2.out
  case body =>
    rintro l pre x a' W ⟨hb, hc⟩ hv ⟨pb, hpb, hpB, rfl⟩
    obtain ⟨lt, lw, hL, hcase⟩ := hb
    obtain ⟨ta, tc, e1, -⟩ := hv.t.cells
    obtain ⟨ua, uc, e2, hux⟩ := hv.w.cells
    obtain ⟨hux, -⟩ := hux
    have hlenx := hv.len
    have HT := Lib.hid hv.t
    have HU := Lib.hid hv.w
    obtain ⟨turns, worn', tv, wv⟩ := x
    unfold Pl.agg
    simp only at e1 e2 hux hlenx hpB HT HU ⊢
    subst e1
    subst e2
    rw [hlenx] at hpB HU ⊢
    have HLX := Lib.hid hlenx
    obtain ⟨tn, htn⟩ : ∃ tn, turns.length = tn := ⟨_, rfl⟩
    have HTN := Lib.hid htn
    rw [htn] at hpB HT ⊢
    have hne : w.heap.size + 1 + 1 ≠ pb := by omega
    have HPB := Lib.hid hpB
    have HC := Lib.hid hc
    have HUX := Lib.hid hux
    have hpl := hpB.lt
    have hll := hL.lt
    have p0 := hpB.cell 0 (v := .slice ta tn tc) rfl
    have p1 := hpB.cell 1 (v := .slice ua n uc) rfl
    -- what is left when the new one is the best so far
    have hwin : ∀ W', Ext W W' → bestStep (bestL (pre.map plOf)) (turns, worn') = some (turns, worn') → KeepsFrom w3.heap.size W ((W'.setCell ⟨w.heap.size + 1 + 1, 0, none⟩ (.slice ta tn tc)).setCell ⟨w.heap.size + 1 + 1, 1, none⟩ (.slice ua n uc)) ∧ Kc S W ((W'.setCell ⟨w.heap.size + 1 + 1, 0, none⟩ (.slice ta tn tc)).setCell ⟨w.heap.size + 1 + 1, 1, none⟩ (.slice ua n uc)) ∧
        BestAt S n ((W'.setCell ⟨w.heap.size + 1 + 1, 0, none⟩ (.slice ta tn tc)).setCell ⟨w.heap.size + 1 + 1, 1, none⟩ (.slice ua n uc)) (w.heap.size + 1 + 1) (bestStep (bestL (pre.map plOf)) (turns, worn')) ∧ Chg S w3 ((W'.setCell ⟨w.heap.size + 1 + 1, 0, none⟩ (.slice ta tn tc)).setCell ⟨w.heap.size + 1 + 1, 1, none⟩ (.slice ua n uc)) := by
      intro W' hx he
      have hcg : Chg S W ((W'.setCell ⟨w.heap.size + 1 + 1, 0, none⟩ (.slice ta tn tc)).setCell ⟨w.heap.size + 1 + 1, 1, none⟩ (.slice ua n uc)) := ((hx.chg S).setCell (p := ⟨w.heap.size + 1 + 1, 0, none⟩) (.inr hSb) _).setCell (p := ⟨w.heap.size + 1 + 1, 1, none⟩) (.inr hSb) _
      refine ⟨((hx.others.trans (KeepsOthers.setCell _ _ _)).trans (KeepsOthers.setCell _ _ _)).from _, .of_chg hcg, ⟨_, _, by simpa using ((hL.ext hx).set 0 (.slice ta tn tc)).set 1 (.slice ua n uc), .inr ⟨(turns, worn'), he, HT.out.keep (.of_chg hcg), HU.out.keep (.of_chg hcg), HLX.out⟩⟩, HC.out.trans hcg⟩
    have HWIN := Lib.hid hwin
    clear hv htn hpB hc hux hwin hlenx
    rcases hcase with ⟨ho, rfl, rfl⟩ | ⟨q, hq, hqt, hqw, hql⟩
    · have l0 := hL.cell 0 (v := .slice none 0 0) rfl
      have l1 := hL.cell 1 (v := .slice none 0 0) rfl
      have l2 := hL.frozen 0
      have l3 := hL.frozen 1
      have HB := Lib.hid (show bestStep (bestL (pre.map plOf)) (turns, worn') = some (turns, worn') by rw [ho]; rfl)
      clear ho hL
      have he := eql_none 0 0
      gi_upto_region 4 with fail
      have y0 : ∀ y : Lat NoX W, y.world.cell? ⟨w.heap.size + 1 + 1, 0, none⟩ = some _ := fun y => (Lat.ext0 y).cell l0
      have y1 : ∀ y : Lat NoX W, y.world.cell? ⟨w.heap.size + 1 + 1, 1, none⟩ = some _ := fun y => (Lat.ext0 y).cell l1
      have y2 : ∀ y : Lat NoX W, y.world.cell? ⟨pb, 0, none⟩ = some _ := fun y => (Lat.ext0 y).cell p0
      have y3 : ∀ y : Lat NoX W, y.world.cell? ⟨pb, 1, none⟩ = some _ := fun y => (Lat.ext0 y).cell p1
      refine wpIn_region_lat_r l (by kernel_rfl) (by kernel_rfl) (by kernel_rfl) ?_
      intro T hT hne
      repeat (go_big_quiet_step (fail))
      refine wpQuiet_nil ?_
      intro W' hx'
      clear y0 y1 y2 y3
      have c0 := hx'.cell p0
      have c1 := hx'.cell p1
      have d0 := hx'.cell l0
      have d1 := hx'.cell l1
      have hsz' := hx'.size
      have k1 : pb < W'.heap.size := by omega
      have k2 : w.heap.size + 1 + 1 < W'.heap.size := by omega
      replace l2 := hx'.frozen l0 l2
      replace l3 := hx'.frozen l1 l3
      have HF := Lib.hid (HWIN.out W' hx' HB.out)
      clear p0 p1 l0 l1 hx' hpl hll
      gi_wp2
      exact ⟨by rw [← hsz]; exact HF.out.1, HF.out.2.1, .snoc HF.out.2.2.1, HF.out.2.2.2⟩
    · obtain ⟨qa, qc, e1, -⟩ := hqt.cells
      obtain ⟨vb, vo, vc, e2, hvx, -⟩ := hqw.head (by rw [hql]; exact hn.1)
      have HQT := Lib.hid hqt
      have HQW := Lib.hid hqw
      subst e1
      subst e2
      rw [hql] at hL HQW
      obtain ⟨qn, hqn⟩ : ∃ qn, q.1.length = qn := ⟨_, rfl⟩
      rw [hqn] at hL HQT
      have l0 := hL.cell 0 (v := .slice qa qn qc) rfl
      have l1 := hL.cell 1 (v := .slice (some ⟨vb, vo, none⟩) n vc) rfl
      have l2 := hL.frozen 0
      have l3 := hL.frozen 1
      have HM1 := Lib.hid (fun W' (h : Ext W W') => by have := brd_most (.slice ta tn tc) worn' ua uc W' (HUX.out.ext h) (by rw [HLX.out]; exact hn.1) (by rw [HLX.out]; omega); rwa [HLX.out] at this)
      have HM2 := Lib.hid (fun W' (h : Ext W W') => by have := brd_most (.slice qa qn qc) q.2 (some ⟨vb, vo, none⟩) vc W' (hvx.ext h) (by rw [hql]; exact hn.1) (by rw [hql]; omega); rwa [hql] at this)
      have hB : bestStep (bestL (pre.map plOf)) (turns, worn') = if maxL worn' < maxL q.2 then some (turns, worn') else some q := by rw [hq]; rfl
      have HB := Lib.hid hB
      have hL0 := Lib.hid hL
      clear hB hq hqt hqw hvx hL
      have he := eql_some ⟨vb, vo, none⟩ n vc
      generalize maxL worn' = m1 at *
      generalize maxL q.2 = m2 at *
      gi_upto_region 4 with fail
      have y0 : ∀ y : Lat NoX W, y.world.cell? ⟨w.heap.size + 1 + 1, 0, none⟩ = some _ := fun y => (Lat.ext0 y).cell l0
      have y1 : ∀ y : Lat NoX W, y.world.cell? ⟨w.heap.size + 1 + 1, 1, none⟩ = some _ := fun y => (Lat.ext0 y).cell l1
      have y2 : ∀ y : Lat NoX W, y.world.cell? ⟨pb, 0, none⟩ = some _ := fun y => (Lat.ext0 y).cell p0
      have y3 : ∀ y : Lat NoX W, y.world.cell? ⟨pb, 1, none⟩ = some _ := fun y => (Lat.ext0 y).cell p1
      refine wpIn_region_lat_r l (by kernel_rfl) (by kernel_rfl) (by kernel_rfl) ?_
      intro T hT hne
      repeat (go_big_quiet_step (first | with_reducible refine Calls.lat hT (HM1.out _ (Lat.ext0 _)) | with_reducible refine Calls.lat hT (HM2.out _ (Lat.ext0 _))))
      refine wpQuiet_nil ?_
      intro W' hx'
      clear y0 y1 y2 y3
      cases hlt : decide (m1 < m2)
      · have hE : bestStep (bestL (pre.map plOf)) (turns, worn') = some q := by rw [HB.out, if_neg (by simpa using hlt)]
        have HE := Lib.hid hE
        have HX' := Lib.hid hx'
        clear hE hx'
        gi_wp2
        refine ⟨HX'.out.others.from _, .of_ext HX'.out, .snoc ?_, HC.out.ext' HX'.out⟩
        rw [HE.out]
        exact ⟨_, _, hL0.out.ext HX'.out, .inr ⟨q, rfl, HQT.out.keep (.of_ext HX'.out), HQW.out.keep (.of_ext HX'.out), hql⟩⟩
      · have c0 := hx'.cell p0
        have c1 := hx'.cell p1
        have d0 := hx'.cell l0
        have d1 := hx'.cell l1
        have hsz' := hx'.size
        have k1 : pb < W'.heap.size := by omega
        have k2 : w.heap.size + 1 + 1 < W'.heap.size := by omega
        replace l2 := hx'.frozen l0 l2
        replace l3 := hx'.frozen l1 l3
        have HF := Lib.hid (HWIN.out W' hx' (by rw [HB.out, if_pos (by simpa using hlt)]))
        clear p0 p1 l0 l1 hx' hpl hll
        gi_wp2
        exact ⟨by rw [← hsz]; exact HF.out.1, HF.out.2.1, .snoc HF.out.2.2.1, HF.out.2.2.2⟩
  case done =>
    rintro D xs W hD hxs ⟨⟨lt, lw, hL, hcase⟩, hc⟩ hK
    rw [hxs] at hcase
    rcases hcase with ⟨ho, -⟩ | ⟨q, hq, hqt, hqw, hql⟩
    · exfalso
      exact plansL_ne wks [] worn (by rw [HWL.out]; exact hn.1) (by rw [HWL.out]; exact hok) (bestL_none ho)
    obtain ⟨ta, tc, e1, -⟩ := hqt.cells
    obtain ⟨ua, uc, e2, -⟩ := hqw.cells
    have HQT := Lib.hid hqt
    have HQW := Lib.hid hqw
    subst e1
    subst e2
    rw [hql] at hL HQW
    obtain ⟨tn, htn⟩ : ∃ tn, q.1.length = tn := ⟨_, rfl⟩
    rw [htn] at hL HQT
    have l0 := hL.cell 0 (v := .slice ta tn tc) rfl
    have l1 := hL.cell 1 (v := .slice ua n uc) rfl
    have l2 := hL.frozen 0
    have l3 := hL.frozen 1
    have hll := hL.lt
    have hcg : Chg S W ((W.setCell ⟨w.heap.size + 1 + 1, 0, none⟩ (.slice ta tn tc)).setCell ⟨w.heap.size + 1 + 1, 1, none⟩ (.slice ua n uc)) := ((Chg.refl S W).setCell (p := ⟨w.heap.size + 1 + 1, 0, none⟩) (.inr hSb) _).setCell (p := ⟨w.heap.size + 1 + 1, 1, none⟩) (.inr hSb) _
    have hL2 : Blk ((W.setCell ⟨w.heap.size + 1 + 1, 0, none⟩ (.slice ta tn tc)).setCell ⟨w.heap.size + 1 + 1, 1, none⟩ (.slice ua n uc)) (w.heap.size + 1 + 1) #[.slice ta tn tc, .slice ua n uc] := by simpa using (hL.set 0 (.slice ta tn tc)).set 1 (.slice ua n uc)
    have hK2 : ((W.setCell ⟨w.heap.size + 1 + 1, 0, none⟩ (.slice ta tn tc)).setCell ⟨w.heap.size + 1 + 1, 1, none⟩ (.slice ua n uc)).heap[D]? = some (.deferred (some [])) := (KeepsOthers.setCell _ _ _).same D _ ((KeepsOthers.setCell W ⟨w.heap.size + 1 + 1, 0, none⟩ (.slice ta tn tc)).same D _ hK rfl) rfl
    have r0 := cell_put (hL2.cell 0 (v := .slice ta tn tc) rfl) hK2 rfl (.deferred none)
    have r1 := cell_put (hL2.cell 1 (v := .slice ua n uc) rfl) hK2 rfl (.deferred none)
    have hkc : Kc S W (((W.setCell ⟨w.heap.size + 1 + 1, 0, none⟩ (.slice ta tn tc)).setCell ⟨w.heap.size + 1 + 1, 1, none⟩ (.slice ua n uc)).putObj D (.deferred none)) := (Kc.of_chg hcg).trans (Kc.put S _ D _ _ hK2 rfl)
    have HF := Lib.hid (show RdI S0 (((W.setCell ⟨w.heap.size + 1 + 1, 0, none⟩ (.slice ta tn tc)).setCell ⟨w.heap.size + 1 + 1, 1, none⟩ (.slice ua n uc)).putObj D (.deferred none)) (.slice ta tn tc) q.1 ∧ RdI S0 (((W.setCell ⟨w.heap.size + 1 + 1, 0, none⟩ (.slice ta tn tc)).setCell ⟨w.heap.size + 1 + 1, 1, none⟩ (.slice ua n uc)).putObj D (.deferred none)) (.slice ua n uc) q.2 ∧ Ext w (((W.setCell ⟨w.heap.size + 1 + 1, 0, none⟩ (.slice ta tn tc)).setCell ⟨w.heap.size + 1 + 1, 1, none⟩ (.slice ua n uc)).putObj D (.deferred none)) from
      ⟨(HQT.out.keep hkc).sub fun _ _ _ h => h, (HQW.out.keep hkc).sub fun _ _ _ h => h, ext_put (Chg.to_ext HX3.out (hc.trans hcg) (by intro i hi; have := hSl _ hi; omega)) (by omega) _⟩)
    have HR0 := Lib.hid r0
    have HR1 := Lib.hid r1
    have HK2 := Lib.hid hK2
    clear hL hcg hL2 hK2 r0 r1 hkc hqt hqw hK hc hxs
    gi_wp2
    exact ret_m1 (v := .agg #[.slice ta tn tc, .slice ua n uc]) rfl HK2.out (by simp [results, Tryz.results31, go_sem, HR0.out, HR1.out]) ⟨_, _, q, rfl, hq, HF.out.1, HF.out.2.1, hql, HF.out.2.2⟩
end Go.Proofs.YtlkbbcfbnbnagaaGreat
