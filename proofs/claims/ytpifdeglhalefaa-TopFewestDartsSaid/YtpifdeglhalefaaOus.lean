/-
  Package out: ways: all ways with just so many beds.
-/
import Derived.Test.YtpifdeglhalefaaOur
import Derived.Test.YtpifdeglhalefaaRbx
namespace Go.Proofs.Ytpifdeglhalefaa
open Go.RowKit Go.BigFrame
attribute [local go_sem] Oper.semAt_some Later.cell Later.frozen Lat.cell Lat.frozen NoX
theorem heap_newN {w : World} {o : Obj} (n : Nat) (hn : n = w.heap.size) : (w.alloc o).heap[n]? = some o := by subst hn; exact World.alloc_heap_new w o
theorem Chg.one_grown {p : Nat} {A B : World} (h : Chg (· = p) A B) : A.grownBy B (some p) := ⟨h.os, h.tape, h.output, h.size, fun k hk hne => h.block k hk (fun e => hne (by rw [show k = p from e]))⟩
theorem kf_chgC {S : Nat → Prop} {base : Nat} {A B : World} (h : Chg S A B) (hs : ∀ k, S k → ∃ cs t f, A.heap[k]? = some (.cells cs t f)) : KeepsFrom base A B :=
  ⟨h.size, fun k o _ hk ho => h.heap hk (fun e => by
    obtain ⟨cs, t, f, h1⟩ := hs k e
    rw [hk] at h1
    cases h1
    cases ho)⟩
/-- The answer of ways is put to its variable. -/
theorem ways_said {K4 kb p5 p7 p8 p9 p10 l B1 B2 : Nat} {k : Int} {beds : List Int} {g : Int} {rows : List (List Int)} {ba : Option Addr} {bc : Nat} {cv : Value} {first : List Int} {fa : Option Addr} {fc : Nat} {J : List (List Int) → World → Prop} (hJ : OwnT B1 J) {W w2 : World} (HF : WyF K4 kb p5 p7 p8 p9 p10 k l beds g rows ba bc cv first fa fc w2) {xs : List (List Int)} (hj : J xs w2) (hk : KpW K4 W w2) (hf : KeepsFrom B2 W w2) (hp : W.heap.size ≤ p10) (hB : B1 ≤ W.heap.size) :
    Blk (w2.setCell ⟨p10, 0, none⟩ (.bool true)) p10 #[.bool true] ∧ J xs (w2.setCell ⟨p10, 0, none⟩ (.bool true)) ∧ KpW K4 W (w2.setCell ⟨p10, 0, none⟩ (.bool true)) ∧ KeepsFrom B2 W (w2.setCell ⟨p10, 0, none⟩ (.bool true)) := by
  have hC : Chg (· = p10) w2 (w2.setCell ⟨p10, 0, none⟩ (.bool true)) := one_chg (· = p10) w2 rfl _
  refine ⟨one_set (v0 := .bool false) ⟨_, HF.b10.1⟩ _, hJ _ _ _ (some p10) hj hC.one_grown (fun r e => ?_), hk.chg hC (fun q e => ⟨?_, ?_⟩) HF.vd.lt, hf.trans (kf_chgC hC (fun q e => ?_))⟩
  · cases e
    refine ⟨by omega, .inr ⟨false, true, (0, 0), HF.b10.1, ?_⟩⟩
    obtain ⟨hlt, he⟩ := Array.getElem?_eq_some_iff.1 HF.b10.1
    simp only [World.setCell]
    rw [Array.getElem?_eq_getElem (by rw [Array.size_modify]; exact hlt), Array.getElem_modify_self, he]
    rfl
  · rw [show q = p10 from e]; exact hp
  · rw [show q = p10 from e]; exact HF.b10.2.2.1
  · rw [show q = p10 from e]; exact ⟨_, _, _, HF.b10.1⟩
set_option maxRecDepth 100000 in
set_option maxHeartbeats 8000000 in
theorem ways_step (K4 B1 B2 l kb : Nat) (g : Int) (beds : List Int) (rows : List (List Int)) (ba : Option Addr) (bc : Nat) (cv : Value) (J : List (List Int) → World → Prop) (hJ : OwnT B1 J) (hl : beds.length ≤ 1000) (hv : ∀ x ∈ beds, I64 x ∧ 1 ≤ wrt x ∧ wrt x ≤ 100) (most : Nat) (hm : most ≤ 1500) (hrw : ∀ r ∈ rows, r.length = most + 1) (hrl : rows.length ≤ 100)
    (N : Nat) (hY : ∀ m pre way vs W, J pre W → encW K4 way W vs → pre.length < N → YieldAt Fence.wide m Try.prog l vs W fun e W' => e = .returned (.bool true) ∧ J (pre ++ [way]) W' ∧ KpW K4 W W' ∧ KeepsFrom B2 W W') (k : Nat) (IH : ∀ j, k = j + 1 → WaysK K4 B1 B2 l kb g beds rows ba bc cv J most N j) :
    WaysK K4 B1 B2 l kb g beds rows ba bc cv J most N k := by
    intro s first fa fc pre W hs hk hfl hB1 hB2 hvd hbd hfr hj hN
    have HS0 := Lib.hid (And.intro hs (And.intro hk (And.intro hfl (And.intro hB1 hB2))))
    have HY := Lib.hid hY
    have HJA := Lib.hid hJ
    have HVD := Lib.hid hvd
    have HBD := Lib.hid hbd
    have HFR := Lib.hid hfr
    have HJ := Lib.hid hj
    have HV := Lib.hid hv
    have HL := Lib.hid hl
    have HRW := Lib.hid hrw
    have HIH := Lib.hid IH
    have HN := Lib.hid hN
    clear hs hk hfl hB1 hB2 hY hJ hvd hbd hfr hj hv hl hrw IH hN
    refine (callsIn_wide (n := 8)).1 ?_
    refine callsIn_of_wp_marks Try.func74 rfl trivial ?_ rfl
    simp only [Try.ntmps74, List.size_toArray, List.length_cons, List.length_nil, Nat.reduceAdd, Nat.reduceSub, Array.replicate_succ, Array.replicate_zero, List.push_toArray, List.append_toArray, List.nil_append, List.cons_append]
    gi_upto_region 1 with fail
    generalize hw1 : World.alloc (World.alloc (World.alloc (World.alloc (World.alloc W _) _) _) _) _ = w1
    have HX1 : Hid (Ext W w1) := Lib.hid (by rw [← hw1]; exact (((((Ext.refl W).alloc _).alloc _).alloc _).alloc _).alloc _)
    have HSZ : Hid (w1.heap.size = W.heap.size + 5) := Lib.hid (by rw [← hw1]; simp)
    have hn : ∀ j, j < 5 → SafeB K4 w1 (W.heap.size + j) := fun j hj => SafeB.new HVD.out HX1.out (by omega) (by rw [HSZ.out]; omega)
    have HF : Hid (WyF K4 kb W.heap.size (W.heap.size + 1) (W.heap.size + 1 + 1) (W.heap.size + 1 + 1 + 1) (W.heap.size + 1 + 1 + 1 + 1) k l beds g rows ba bc cv first fa fc w1) := Lib.hid (by
      refine ⟨HVD.out.kp (.of_ext HX1.out HVD.out.lt), ⟨?_, hn 0 (by decide)⟩, ⟨?_, hn 1 (by decide)⟩, ⟨?_, hn 2 (by decide)⟩, ⟨?_, hn 3 (by decide)⟩, ⟨?_, hn 4 (by decide)⟩, HBD.out.kp (.of_ext HX1.out HVD.out.lt), HFR.out.kp (.of_ext HX1.out HVD.out.lt)⟩
      · rw [← hw1]; exact ((((Blk.new W _ _).alloc _).alloc _).alloc _).alloc _
      · rw [← hw1]; exact (((Blk.at _ (by simp)).alloc _).alloc _).alloc _
      · rw [← hw1]; exact ((Blk.at _ (by simp)).alloc _).alloc _
      · rw [← hw1]; exact (Blk.at _ (by simp)).alloc _
      · rw [← hw1]; exact heap_newN _ (by simp))
    clear hn
    obtain ⟨p5, hp5⟩ : ∃ y, y = W.heap.size := ⟨_, rfl⟩
    obtain ⟨p7, hp7⟩ : ∃ y, y = W.heap.size + 1 := ⟨_, rfl⟩
    obtain ⟨p8, hp8⟩ : ∃ y, y = W.heap.size + 1 + 1 := ⟨_, rfl⟩
    obtain ⟨p9, hp9⟩ : ∃ y, y = W.heap.size + 1 + 1 + 1 := ⟨_, rfl⟩
    obtain ⟨p10, hp10⟩ : ∃ y, y = W.heap.size + 1 + 1 + 1 + 1 := ⟨_, rfl⟩
    rw [← hp10, ← hp9, ← hp8, ← hp7, ← hp5]
    rw [← hp10, ← hp9, ← hp8, ← hp7, ← hp5] at HF
    have HPS := Lib.hid (And.intro hp5 (And.intro hp7 (And.intro hp8 (And.intro hp9 hp10))))
    clear hw1 hp5 hp7 hp8 hp9 hp10
    have c7 := HF.out.b7.1.cell 0 (v := .int .i64 k) rfl
    have l7 := HF.out.b7.1.lt
    cases k with
    | zero =>
      have c8 := HF.out.b8.1.cell 0 (v := .slice fa first.length fc) rfl
      have l8 := HF.out.b8.1.lt
      have c9 := HF.out.b9.1.cell 0 (v := .func (.yield l) #[] #[]) rfl
      have l9 := HF.out.b9.1.lt
      obtain ⟨f1, t1, a1', b1', hy1, hR1⟩ := HY.out 7 pre first #[.slice fa first.length fc] w1 (HJA.out.ext HJ.out HX1.out) ⟨HF.out.vd, _, _, rfl, HF.out.fst⟩ (by have h := HN.out; simp only [wayO, List.length_cons, List.length_nil] at h; omega)
      gi_wp2
      refine hR1.mono ?_
      rintro e w2 ⟨rfl, hj2, hk2, hf2⟩
      clear hy1 hR1 c7 l7 c8 l8 c9 l9
      have HF2 := Lib.hid (HF.out.kp hk2)
      have HJ2 := Lib.hid hj2
      have HK2 := Lib.hid hk2
      have HKF2 := Lib.hid hf2
      clear hj2 hk2 hf2
      have c10 := (show Blk w2 p10 #[.bool false] from ⟨_, HF2.out.b10.1⟩).cell 0 (v := .bool false) rfl
      have f10 := (show Blk w2 p10 #[.bool false] from ⟨_, HF2.out.b10.1⟩).frozen 0
      have l10 := (show Blk w2 p10 #[.bool false] from ⟨_, HF2.out.b10.1⟩).lt
      gi_wp2
      obtain ⟨hb, h1, h2, h3⟩ := ways_said HJA.out HF2.out HJ2.out ((KpW.of_ext HX1.out HVD.out.lt).trans HK2.out) ((kf_ext HX1.out).trans HKF2.out) (by have := HPS.out; omega) HS0.out.2.2.2.1
      generalize World.setCell _ _ _ = w3 at hb h1 h2 h3 ⊢
      have y0 := hb.cell 0 (v := .bool true) rfl
      exact ret_m rfl (v := .bool true) (by simp [results, Try.results74, go_sem, y0]) ⟨rfl, h1, h2, h3⟩
    | succ k =>
      clear c7 l7
      have HIK := Lib.hid (HIH.out k rfl)
      rw [show ((k + 1 : Nat) : Int) = (k : Int) + 1 by omega] at HF ⊢
      clear HIH
      have c7 := HF.out.b7.1.cell 0 (v := .int .i64 ((k : Int) + 1)) rfl
      have l7 := HF.out.b7.1.lt
      have c5 := HF.out.b5.1.cell 0 (v := .pointer (some ⟨kb, 0, none⟩)) rfl
      have l5 := HF.out.b5.1.lt
      gi_wp2_with fail
      refine ⟨trivial, (callsIn_wide.2 (out_throws kb (s : Int) _)).mono ?_⟩
      rintro e w2 ⟨kp, ks, rfl, hkk, hb1, hb2, hx2⟩
      have HF2 := Lib.hid (HF.out.ext hx2)
      have HX2 := Lib.hid (HX1.out.trans hx2)
      have HBP := Lib.hid (show BoxK K4 w2 kp _ from ⟨hb1, SafeB.new HF.out.vd hx2 hkk.1 hb1.lt⟩)
      have HBS := Lib.hid (show BoxK K4 w2 ks _ from ⟨hb2, SafeB.new HF.out.vd hx2 hkk.2 hb2.lt⟩)
      clear hkk hb1 hb2 hx2 c7 l7 c5 l5
      have HWP : Hid (∀ p : Int × Int, wyP g beds rows k first p = if 0 < (rows.getD k []).getD p.2.toNat 0 then wayO g beds rows k p.2 (first ++ [p.1]) else []) := Lib.hid (fun _ => rfl)
      obtain ⟨wy, hwy⟩ : ∃ y, wyP g beds rows k first = y := ⟨_, rfl⟩
      rw [hwy] at HWP
      have HRES : Hid (wayO g beds rows (k + 1) s first = (thwO g beds s).flatMap wy) := Lib.hid (by rw [wayO_succ, hwy])
      clear hwy
      have HFX : Hid (∀ A B, (WyF K4 kb p5 p7 p8 p9 p10 ((k : Int) + 1) l beds g rows ba bc cv first fa fc A ∧ BoxK K4 A kp #[.pointer (some ⟨kb, 0, none⟩)] ∧ BoxK K4 A ks #[.int .i64 s]) → KpW K4 A B → (WyF K4 kb p5 p7 p8 p9 p10 ((k : Int) + 1) l beds g rows ba bc cv first fa fc B ∧ BoxK K4 B kp #[.pointer (some ⟨kb, 0, none⟩)] ∧ BoxK K4 B ks #[.int .i64 s])) := Lib.hid (fun A B h hk => ⟨h.1.kp hk, h.2.1.kp hk, h.2.2.kp hk⟩)
      have HSEQ := Lib.hid (throws_seqX (KpW K4) (fun W => WyF K4 kb p5 p7 p8 p9 p10 ((k : Int) + 1) l beds g rows ba bc cv first fa fc W ∧ BoxK K4 W kp #[.pointer (some ⟨kb, 0, none⟩)] ∧ BoxK K4 W ks #[.int .i64 s]) 7 kb kp ks g s cv beds ba bc w2
        (fun W h => ⟨h.1.brd.blk, h.2.1.1, h.2.2.1, by obtain ⟨_, _, e, h1, -⟩ := h.1.brd.bed.cells; cases e; exact h1⟩) (fun A B h hx => HFX.out A B h (.of_ext hx h.1.vd.lt)) HFX.out ⟨HF2.out, HBP.out, HBS.out⟩ HL.out (fun x hx => by
          have h := HV.out x hx
          have h2 := HS0.out
          exact ⟨h.1, ⟨by omega, by omega⟩⟩))
      gi_wp2
      have HW2 : Hid (W.heap.size + 5 ≤ w2.heap.size) := Lib.hid (by have h1 := HX2.out.size; have h2 := HSZ.out; have h3 := HF2.out.b10.2.1; have h4 := HPS.out; omega)
      refine wpIn_rangeFunc_c (α := Int × Int) (by decide) (gf := 70) (fb := #[]) (lb := #[.pointer (some ⟨kp, 0, none⟩), .pointer (some ⟨ks, 0, none⟩)]) rfl enters_throws1 HSEQ.out KpW.trans (fun W o o' h ho _ => KpW.put o' h ho (by have := HF2.out.vd.lt; omega)) (fun _ => rfl)
        (fun q W' => J (pre ++ q.flatMap wy) W' ∧ KpW K4 W W' ∧ KeepsFrom B2 W W' ∧ WyF K4 kb p5 p7 p8 p9 p10 ((k : Int) + 1) l beds g rows ba bc cv first fa fc W') ?hI ?hV ?h0
        (fun x a' W' => ∃ p11, a' = { tmps := #[.pointer (some ⟨kb, 0, none⟩), .int .i64 s, .int .i64 ((k : Int) + 1), .slice fa first.length fc, .func (.yield l) #[] #[], .pointer (some ⟨p5, 0, none⟩), undef, .pointer (some ⟨p7, 0, none⟩), .pointer (some ⟨p8, 0, none⟩), .pointer (some ⟨p9, 0, none⟩), .pointer (some ⟨p10, 0, none⟩), .pointer (some ⟨p11, 0, none⟩), .int .i64 x.2, .int .i64 ((k : Int) + 1), .bool false, undef, undef, undef, .pointer (some ⟨kb, 0, none⟩), .int .i64 s, .func (.func 70) #[] #[.pointer (some ⟨kp, 0, none⟩), .pointer (some ⟨ks, 0, none⟩)], .agg #[.int .i64 x.1], .int .i64 x.2, undef, undef, undef, undef, undef, undef, undef, undef, undef, undef, undef, undef, undef, undef, undef, undef, undef, undef, undef, undef, undef, undef, undef, undef, undef, undef, undef], defers := [] } ∧ Vd K4 W' ∧ BoxK K4 W' p11 #[.int .i64 x.1]) ?hAx ?assign ?body ?done
      case hI =>
        rintro q A C row ⟨h1, h2, h3, h4⟩ hg hr
        have hk := KpW.ofg hg (fun r e => (hr r e).2) h4.vd.1
        exact ⟨HJA.out.own _ _ _ _ h1 hg (fun r e => ⟨by have h5 := (hr r e).1; have h6 := HW2.out; have h7 := HS0.out; omega, (hr r e).2⟩), h2.trans hk, kf_grown h3 hg (fun r e => by have h5 := (hr r e).1; have h6 := HW2.out; omega), h4.kp hk⟩
      case hV => intro q x u A C row h _ _; exact h
      case h0 =>
        exact ⟨by simpa using HJA.out.ext HJ.out HX2.out, .of_ext HX2.out HVD.out.lt, kf_ext HX2.out, HF2.out⟩
      case hAx =>
        rintro x a' u A C row ⟨p11, h1, h2, h3⟩ hg hr
        have hk := KpW.ofg hg (fun r e => (hr r e).2) h2.1
        exact ⟨p11, h1, h2.kp hk, h3.kp hk⟩
      case assign =>
        intro l' q x W' K hi hv hK
        have HI := Lib.hid hi
        have HKK := Lib.hid hK
        have HVV := Lib.hid hv
        clear hi hK hv
        dsimp only
        gi_wp2
        have hx : Ext W' (W'.alloc (.cells #[.int .i64 x.1] 124)) := (Ext.refl W').alloc _
        have hkx := KpW.of_ext hx HI.out.2.2.2.vd.lt
        exact HKK.out _ _ (kf_ext hx) hkx ⟨HJA.out.ext HI.out.1 hx, HI.out.2.1.trans hkx, HI.out.2.2.1.trans (kf_ext hx), HI.out.2.2.2.kp hkx⟩ HVV.out ⟨_, rfl, HI.out.2.2.2.vd.kp hkx, Blk.new _ _ _, SafeB.new HI.out.2.2.2.vd hx (Nat.le_refl _) (by simp)⟩
      case body =>
        rintro l' q ⟨xb, xl⟩ a' W' ⟨hj, hk, hf, hwf⟩ hv ⟨p11, rfl, hvd, hb11⟩
        obtain ⟨r, hr⟩ := hv
        obtain ⟨hv1, hv2, hv3, hv4⟩ := thwO_mem (show (xb, xl) ∈ thwO g beds s by rw [hr]; simp)
        have HNQ : Hid (pre.length + ((q.flatMap wy).length + (wy (xb, xl)).length) ≤ N) := Lib.hid (by
          have h := HN.out
          rw [HRES.out, hr, List.flatMap_append, List.flatMap_cons, List.length_append, List.length_append] at h
          omega)
        dsimp only at hv1 hv2 hv3 hb11 ⊢
        have hwr := HV.out xb hv1
        have hx0 : 0 ≤ xl ∧ xl ≤ (s : Int) := by
          unfold aftB at hv3
          rw [hv2]
          refine ⟨?_, by omega⟩
          split at hv3
          · omega
          · split at hv3
            · omega
            · simp at hv3; omega
        obtain ⟨q0, rfl⟩ := Int.eq_ofNat_of_zero_le hx0.1
        have hS := HS0.out
        have hkr : k < rows.length := by omega
        have hqr : q0 < rows[k].length := by rw [HRW.out _ (List.getElem_mem hkr)]; omega
        have HQ0 := Lib.hid (show q0 ≤ most by omega)
        obtain ⟨cb, cc, rb, ro, rc, rfl, hcells⟩ := hwf.brd.at2 hkr hqr
        obtain ⟨cnt, hcnt⟩ : ∃ y, rows[k][q0] = y := ⟨_, rfl⟩
        obtain ⟨rn, hrn⟩ : ∃ y, rows[k].length = y := ⟨_, rfl⟩
        have hgd : (rows.getD k []).getD (q0 : Int).toNat 0 = cnt := by
          rw [← hcnt]
          simp [List.getD_eq_getElem?_getD, hkr, hqr]
        rw [hcnt, hrn] at hcells
        rw [hrn] at hqr
        have HWQ : Hid (wy (xb, (q0 : Int)) = if 0 < cnt then wayO g beds rows k q0 (first ++ [xb]) else []) := Lib.hid (by rw [HWP.out, hgd])
        have HCE := Lib.hid hcells
        have HJ2 := Lib.hid hj
        have HK2 := Lib.hid hk
        have HKF2 := Lib.hid hf
        have HF3 := Lib.hid hwf
        have HB11 := Lib.hid hb11
        have hkr' : (k : Int) < (rows.length : Int) := by omega
        have hqr' : (q0 : Int) < (rn : Int) := by omega
        clear hj hk hf hwf hr hvd hb11 hv1 hv2 hv3 hv4 hwr hx0 hS hgd hcnt hrn hcells HSEQ HWP
        obtain ⟨C, hC⟩ : ∃ y : World → Prop, y = fun w' => WyF K4 kb p5 p7 p8 p9 p10 ((k : Int) + 1) l beds g rows ba bc (.slice (some ⟨cb, 0, none⟩) rows.length cc) first fa fc w' ∧ BoxK K4 w' p11 #[.int .i64 xb] ∧ KpW K4 W' w' := ⟨_, rfl⟩
        have KY : ∀ y : Fk C, WyF K4 kb p5 p7 p8 p9 p10 ((k : Int) + 1) l beds g rows ba bc (.slice (some ⟨cb, 0, none⟩) rows.length cc) first fa fc y.world ∧ BoxK K4 y.world p11 #[.int .i64 xb] ∧ KpW K4 W' y.world := fun y => (show ∀ w', C w' → WyF K4 kb p5 p7 p8 p9 p10 ((k : Int) + 1) l beds g rows ba bc (.slice (some ⟨cb, 0, none⟩) rows.length cc) first fa fc w' ∧ BoxK K4 w' p11 #[.int .i64 xb] ∧ KpW K4 W' w' from fun w' h => by rw [hC] at h; exact h) _ y.ok
        have HCK : Hid (∀ A B, C A → KpW K4 A B → C B) := Lib.hid (fun A B h hk => by rw [hC] at h ⊢; exact ⟨h.1.kp hk, h.2.1.kp hk, h.2.2.trans hk⟩)
        have HCV : Hid (∀ A, C A → Vd K4 A) := Lib.hid (fun A h => by rw [hC] at h; exact h.1.vd)
        have HCS : Hid (Stays C) := Lib.hid (fun A B h hx => HCK.out A B h (.of_ext hx (HCV.out A h).lt))
        have HC0 : Hid (C W') := Lib.hid (by rw [hC]; exact ⟨HF3.out, HB11.out, .refl _ _⟩)
        clear hC
        have m5 : ∀ y : Fk C, y.world.cell? ⟨p5, 0, none⟩ = some (.pointer (some ⟨kb, 0, none⟩)) := fun y => (KY y).1.b5.1.cell 0 rfl
        have m7 : ∀ y : Fk C, y.world.cell? ⟨p7, 0, none⟩ = some (.int .i64 ((k : Int) + 1)) := fun y => (KY y).1.b7.1.cell 0 rfl
        have m8 : ∀ y : Fk C, y.world.cell? ⟨p8, 0, none⟩ = some (.slice fa first.length fc) := fun y => (KY y).1.b8.1.cell 0 rfl
        have m9 : ∀ y : Fk C, y.world.cell? ⟨p9, 0, none⟩ = some (.func (.yield l) #[] #[]) := fun y => (KY y).1.b9.1.cell 0 rfl
        have m11 : ∀ y : Fk C, y.world.cell? ⟨p11, 0, none⟩ = some (.int .i64 xb) := fun y => (KY y).2.1.1.cell 0 rfl
        have mb : ∀ y : Fk C, y.world.cell? ⟨kb, 2, none⟩ = some (.slice (some ⟨cb, 0, none⟩) rows.length cc) := fun y => (KY y).1.brd.blk.cell 2 rfl
        have mc : ∀ y : Fk C, y.world.cell? ⟨cb, k, none⟩ = some (.slice (some ⟨rb, ro, none⟩) rn rc) := fun y => (HCE.out _ (KY y).2.2).1.1
        have mr : ∀ y : Fk C, y.world.cell? ⟨rb, ro + q0, none⟩ = some (.int .i64 cnt) := fun y => (HCE.out _ (KY y).2.2).1.2
        have HJN := Lib.hid (fun (A B : World) (h : J (pre ++ q.flatMap wy) A) (hx : Ext A B) => HJA.out.ext h hx)
        have HJM := Lib.hid (fun (A B : World) (h : J (pre ++ (q.flatMap wy ++ wayO g beds rows k q0 (first ++ [xb]))) A) (hx : Ext A B) => HJA.out.ext h hx)
        have HCL : Hid (∀ y : World, Calls Try.prog 101 #[.slice fa first.length fc] y fun e w' => e = .returned (.slice fa first.length first.length) ∧ Ext y w') := Lib.hid (fun y => by
          obtain ⟨_, _, e, h1, h2, h3, h4⟩ := HF3.out.fst.cells
          cases e
          exact clip_d _ _ _ _ h4 h2 h3 (RdI.addr HF3.out.fst))
        cases hpos : decide (0 < cnt) with
        | false =>
          have HE : Hid (wy (xb, (q0 : Int)) = []) := Lib.hid (by rw [HWQ.out, if_neg (by simpa using hpos)])
          gi_upto_region 6 with fail
          refine wpIn_fk_r l' (by kernel_rfl) (by kernel_rfl) C (fun _ => false) (fun _ _ => True) (fun _ _ w' => J (pre ++ q.flatMap wy) w' ∧ KeepsFrom B2 W' w') (by kernel_rfl) (fun k hk => by cases hk) (fun _ _ _ _ _ h => h) (fun _ _ _ _ h hx => ⟨HJN.out _ _ h.1 hx, h.2.trans (kf_ext hx)⟩) (HCS.out _ _ HC0.out (Ext.refl W').drew) (fun _ => undef) (fun _ _ => trivial) ⟨HJN.out _ _ HJ2.out (Ext.refl W').drew, kf_ext (Ext.refl W').drew⟩ ?_
          intro T hT hne2 u hu
          refine lx_next 27 (by rfl) (by decide) ?_
          dsimp only [List.take, List.drop]
          repeat (go_big_quiet_step (fail))
          refine wpQuiet_nil ?_
          refine lx_nil ?_
          intro y hs
          have HT := Lib.hid hs
          have HY2 := Lib.hid (KY y)
          clear hs hu hT hne2 m5 m7 m8 m9 m11 mb mc mr KY
          generalize y.world = w9 at *
          clear y
          gi_wp2
          exact ⟨kf_up HT.out.2 (by have := HW2.out; have := HS0.out; omega), HY2.out.2.2, by simpa [HE.out] using HT.out.1, HK2.out.trans HY2.out.2.2, HKF2.out.trans HT.out.2, HY2.out.1⟩
        | true =>
          have HE : Hid (wy (xb, (q0 : Int)) = wayO g beds rows k q0 (first ++ [xb])) := Lib.hid (by rw [HWQ.out, if_pos (by simpa using hpos)])
          gi_upto_region 6 with fail
          refine wpIn_fk_r l' (by kernel_rfl) (by kernel_rfl) C (fun k => (k == 21) || ((k == 22) || (k == 24))) (RWy (first.length + 1)) (GWy K4 B2 (J (pre ++ q.flatMap wy)) (J (pre ++ (q.flatMap wy ++ wayO g beds rows k q0 (first ++ [xb])))) W' xb first) (by kernel_rfl)
            (fun k hk => by
              simp only [Bool.or_eq_true, beq_iff_eq] at hk
              rcases hk with rfl | rfl | rfl <;> decide)
            (fun L L' u w' h hg => hg.congr (h 21 rfl) (h 22 rfl) (h 24 rfl) rfl rfl) (fun L u a b h hx => h.ext HJN.out HJM.out HF3.out.vd hx) (HCS.out _ _ HC0.out (Ext.refl W').drew) (wWy (first.length + 1)) (fun k _ => wWy_ok _ k)
            ⟨.of_ext (Ext.refl W').drew HF3.out.vd.lt, kf_ext (Ext.refl W').drew, fun _ => HJN.out _ _ HJ2.out (Ext.refl W').drew, fun h => absurd h (by decide), fun h => absurd h (by decide), fun h => absurd h (by decide)⟩ ?_
          intro T hT hne2 u hu
          obtain ⟨b21, e_21⟩ := (hu 21 rfl).1 rfl
          obtain ⟨a22, c22, e_22⟩ := (hu 22 rfl).2.1 rfl
          have e_24 : u 24 = .bool true := (hu 24 rfl).2.2 rfl
          refine lx_next 21 (by rfl) (by decide) ?_
          dsimp only [List.take, List.drop]
          repeat (go_big_quiet_step (with_reducible refine Calls.fk HCS.out hT (HCL.out _)))
          refine wpQuiet_nil ?_
          refine lx_loud (by rfl) (by kernel_rfl) ?_ (fun K hK => ?_)
          · intro L w4 hL hd hcl hC hs
            obtain ⟨y, rfl⟩ := hC
            have HS := Lib.hid hs
            have HYY := Lib.hid (KY y)
            have HYC := Lib.hid y.ok
            clear hs hd hcl hL m5 m7 m8 m9 m11 mb mc mr KY
            go_wp2
            have hx : Ext y.world (y.world.alloc (.cells #[.int .i64 xb] 33)) := (Ext.refl _).alloc _
            have h := HS.out.ext HJN.out HJM.out HF3.out.vd hx
            exact ⟨⟨fun _ => ⟨_, rfl⟩, fun h => absurd h (by decide), fun h => absurd h (by decide)⟩, ⟨⟨_, HCS.out _ _ HYC.out hx⟩, rfl⟩, ⟨h.kp, h.kf, h.j0, h.j1, fun _ => ⟨_, rfl, Blk.new _ _ _, SafeB.new HYY.out.1.vd hx (Nat.le_refl _) (by simp)⟩, h.s22⟩⟩
          rw [e_21]
          go_simp
          with_reducible refine hK _ ?_
          clear hK K
          refine lx_loud (by rfl) (by kernel_rfl) ?_ (fun K hK => ?_)
          · intro L w4 hL hd hcl hC hs
            obtain ⟨y, rfl⟩ := hC
            obtain ⟨bb, e21, hbx⟩ := hs.s21 (hd 21 (by kernel_rfl))
            obtain rfl : b21 = bb := by rw [e_21] at e21; cases e21; rfl
            have HBX := Lib.hid hbx
            have HS := Lib.hid hs
            have HYY := Lib.hid (KY y)
            have HYC := Lib.hid y.ok
            have FLC : Hid (CellsAt y.world .i64 fa first ∧ (fa = none → first.length = 0 ∧ fc = 0)) := Lib.hid (by
              obtain ⟨_, _, e, h1, h2, h3, h4⟩ := (KY y).1.fst.cells
              cases e
              exact ⟨h1, h4⟩)
            have hlen : first.length ≤ 1000 := by have := HS0.out; omega
            clear hs hd hcl hL hbx e21 m5 m7 m8 m9 m11 mb mc mr KY
            obtain ⟨i0, hi0, hz0, hz1, hz2⟩ := info_parts info_bed
            refine wpList_append_growsW _ (by kernel_rfl) _ _ 52 rfl 33 i0 _ 1 8 (by kernel_rfl) hi0 hz0 hz1 hz2 rfl (by decide) fa first.length first.length (first.map (Value.int .i64)) rfl (fun h => ⟨(FLC.out.2 h).1, (FLC.out.2 h).1⟩) (by simp) (CellsAt.vals FLC.out.1) ⟨b21, 0, none⟩ 1 1 [.int .i64 xb] rfl rfl ?_ ?_ (by omega) (by unfold maxLen; omega) (by omega) ?_
            · intro j u hj
              match j, hj with
              | 0, hj => cases hj; rw [addr_add]; exact HBX.out.1.cell 0 rfl
            · intro u hu
              cases hu with
              | head => rfl
              | tail _ h => cases h
            intro v' w6 ho6 hg6
            have hx6 := Ext.of_grown hg6
            have ho7 : w6.ownsRow y.world.heap.size 33 1 v' (first ++ [xb]).length ((first ++ [xb]).map (Value.int .i64)) := by
              rw [List.length_append, List.map_append]
              exact ho6
            have HRD : Hid (RdK K4 w6 v' (first ++ [xb])) := Lib.hid (RdK.safe ho7 (fun q h1 h2 => SafeB.new HYY.out.1.vd hx6 h1 h2))
            obtain ⟨va, vc, rfl⟩ := own_shape ho6
            have HX6 := Lib.hid hx6
            clear ho6 ho7 hg6 hx6 hi0 hz0 hz1 hz2
            go_wp2
            have h := HS.out.ext HJN.out HJM.out HF3.out.vd HX6.out
            exact ⟨⟨fun h => absurd h (by decide), fun _ => ⟨_, _, rfl⟩, fun h => absurd h (by decide)⟩, ⟨⟨_, HCS.out _ _ HYC.out HX6.out⟩, rfl⟩, ⟨h.kp, h.kf, h.j0, h.j1, h.s21, fun _ => HRD.out⟩⟩
          rw [e_22]
          go_simp
          with_reducible refine hK _ ?_
          clear hK K
          refine lx_next 1 (by rfl) (by decide) ?_
          dsimp only [List.take, List.drop]
          repeat (go_big_quiet_step (fail))
          refine wpQuiet_nil ?_
          refine lx_loud (by rfl) (by kernel_rfl) ?_ (fun K hK => ?_)
          · intro L w4 hL hd hcl hC hs
            obtain ⟨y, rfl⟩ := hC
            have h22 := hs.s22 (hd 22 (by kernel_rfl))
            rw [e_22] at h22
            have hcall := HIK.out q0 (first ++ [xb]) a22 c22 (pre ++ q.flatMap wy) y.world HQ0.out (by omega) (by have := HS0.out; simp; omega) (by have := HS0.out; have := HK2.out.size; have := (KY y).2.2.size; omega) (by have := HS0.out; have := HK2.out.size; have := (KY y).2.2.size; omega) (KY y).1.vd (KY y).1.brd (by rw [List.length_append]; exact h22) (hs.j0 hL) (by have h := HNQ.out; rw [HE.out] at h; rw [List.length_append]; omega)
            rw [show (first ++ [xb]).length = first.length + 1 by simp, List.append_assoc] at hcall
            have HCALL := Lib.hid hcall
            have HS := Lib.hid hs
            have HYC := Lib.hid y.ok
            clear hs hd hcl hL h22 hcall m5 m7 m8 m9 m11 mb mc mr KY
            go_wp2_with fail
            refine HCALL.out.mono ?_
            rintro e w6 ⟨rfl, hj6, hk6, hf6⟩
            have HJ6 := Lib.hid hj6
            have HK6 := Lib.hid hk6
            have HF6 := Lib.hid hf6
            clear hj6 hk6 hf6
            go_wp2
            have h := HS.out
            exact ⟨⟨fun h => absurd h (by decide), fun h => absurd h (by decide), fun _ => rfl⟩, ⟨⟨_, HCK.out _ _ HYC.out HK6.out⟩, rfl⟩, ⟨h.kp.trans HK6.out, h.kf.trans HF6.out, fun h => Bool.noConfusion (show true = false from h), fun _ => HJ6.out, fun e => (let ⟨b, h1, h2⟩ := h.s21 e; ⟨b, h1, h2.kp HK6.out⟩), fun e => (h.s22 e).kp HK6.out⟩⟩
          rw [e_24]
          go_simp
          with_reducible refine hK _ ?_
          clear hK K
          refine lx_next 2 (by rfl) (by decide) ?_
          dsimp only [List.take, List.drop]
          repeat (go_big_quiet_step (fail))
          refine wpQuiet_nil ?_
          refine lx_nil ?_
          intro y hs
          have HT := Lib.hid hs
          have HY2 := Lib.hid (KY y)
          clear hs hu hT hne2 m5 m7 m8 m9 m11 mb mc mr KY
          generalize y.world = w9 at *
          clear y
          gi_wp2
          exact ⟨kf_up HT.out.kf (by have := HW2.out; have := HS0.out; omega), HY2.out.2.2, by simpa [HE.out] using HT.out.j1 rfl, HK2.out.trans HY2.out.2.2, HKF2.out.trans HT.out.kf, HY2.out.1⟩
      case done =>
        rintro Dm xs W' hD rfl ⟨hj, hk2, hf2, hwf⟩ hmk
        have HMK := Lib.hid hmk
        have HJ3 := Lib.hid hj
        have HK3 := Lib.hid hk2
        have HKF3 := Lib.hid hf2
        have HF3 := Lib.hid hwf
        clear hj hk2 hf2 hwf hmk HSEQ
        have c10 := (show Blk W' p10 #[.bool false] from ⟨_, HF3.out.b10.1⟩).cell 0 (v := .bool false) rfl
        have f10 := (show Blk W' p10 #[.bool false] from ⟨_, HF3.out.b10.1⟩).frozen 0
        have l10 := (show Blk W' p10 #[.bool false] from ⟨_, HF3.out.b10.1⟩).lt
        gi_wp2
        obtain ⟨hb, h1, h2, h3⟩ := ways_said HJA.out HF3.out HJ3.out HK3.out HKF3.out (by have := HPS.out; omega) HS0.out.2.2.2.1
        have hv4 : Vd K4 (W'.setCell ⟨p10, 0, none⟩ (.bool true)) := HVD.out.kp h2
        have hmk : Marks w2.heap.size (W'.setCell ⟨p10, 0, none⟩ (.bool true)) (Dm :: []) := ((Marks.nil _ _).cons (by simp) hD HMK.out).chg (one_chg (· = p10) W' rfl _) (fun D hD e => by
          have h5 := (HF2.out.b10.2.1)
          simp only [List.mem_singleton] at hD
          have e : D = p10 := e
          omega)
        generalize World.setCell _ _ _ = w4 at hb h1 h2 h3 hv4 hmk ⊢
        show LeavesInM _ _ _ _ _ _ ([Dm].map markOf) .returning _
        refine ret_mN (v := .bool true) (lo := w2.heap.size) (w := w4) [Dm] w4 .refl hmk ?_
        intro W5 hsh
        have y0 := hsh.cell (hb.cell 0 (v := .bool true) rfl)
        refine ⟨by simp [results, Try.results74, go_sem, y0], rfl, ?_⟩
        rw [HRES.out]
        have hO : OwnFrom w2.heap.size (fun (xs : List (List Int)) (A : World) => J xs A ∧ KpW K4 W A ∧ KeepsFrom B2 W A ∧ Vd K4 A) := by
          rintro xs A C row ⟨a1, a2, a3, a4⟩ hg hr
          have hk := KpW.ofg hg (fun r e => (hr r e).2) a4.1
          exact ⟨HJA.out.own _ _ _ _ a1 hg (fun r e => ⟨by have h5 := (hr r e).1; have h6 := HW2.out; have h7 := HS0.out; omega, (hr r e).2⟩), a2.trans hk, kf_grown a3 hg (fun r e => by have h5 := (hr r e).1; have h6 := HW2.out; omega), a4.kp hk⟩
        have h := hsh.ownF hO (s := pre ++ (thwO g beds s).flatMap wy) ⟨h1, h2, h3, hv4⟩
        exact ⟨h.1, h.2.1, h.2.2.1⟩
theorem ways_all (K4 B1 B2 l kb : Nat) (g : Int) (beds : List Int) (rows : List (List Int)) (ba : Option Addr) (bc : Nat) (cv : Value) (J : List (List Int) → World → Prop) (hJ : OwnT B1 J) (hl : beds.length ≤ 1000) (hv : ∀ x ∈ beds, I64 x ∧ 1 ≤ wrt x ∧ wrt x ≤ 100) (most : Nat) (hm : most ≤ 1500) (hrw : ∀ r ∈ rows, r.length = most + 1) (hrl : rows.length ≤ 100)
    (N : Nat) (hY : ∀ m pre way vs W, J pre W → encW K4 way W vs → pre.length < N → YieldAt Fence.wide m Try.prog l vs W fun e W' => e = .returned (.bool true) ∧ J (pre ++ [way]) W' ∧ KpW K4 W W' ∧ KeepsFrom B2 W W') : ∀ k, WaysK K4 B1 B2 l kb g beds rows ba bc cv J most N k
  | 0 => ways_step K4 B1 B2 l kb g beds rows ba bc cv J hJ hl hv most hm hrw hrl N hY 0 (fun j h => by omega)
  | k + 1 => ways_step K4 B1 B2 l kb g beds rows ba bc cv J hJ hl hv most hm hrw hrl N hY (k + 1) (fun j h => by cases h; exact ways_all K4 B1 B2 l kb g beds rows ba bc cv J hJ hl hv most hm hrw hrl N hY k)
end Go.Proofs.Ytpifdeglhalefaa
