/-
  Package mean: visits.
-/
import Derived.Test.YtmopadnkjlodnaaMvi
namespace Go.Proofs.Ytmopadnkjlodnaa
open Go.RowKit Go.BigFrame
attribute [local go_sem] Oper.semAt_some Later.cell Later.frozen Lat.cell Lat.frozen NoX
/-- Between two visits; behind one that cannot be. -/
structure VisI (gin gout : Int) (beds : List Int) (bf K4 : Nat) (w2 : World) (pre : List Sg) (W : World) : Prop where
  ex : ∃ acc v fl', VisTo gin gout beds pre acc ∧ OwnX W (w2.heap.size + 3) v acc ∧ Blk W K4 #[v] ∧ FoundM gin gout beds W bf fl' ∧ Far w2.heap.size fl'
  chg : Chg (fun k => k = bf ∨ k = K4) w2 W
structure VisX (gin gout : Int) (beds : List Int) (RV : List Ex × Int × Int) (bf K4 : Nat) (w2 : World) (c : Code) (pre : List Sg) (W : World) : Prop where
  c : c = .ret
  ex : ∃ fl', Blk W K4 #[.slice none 0 0] ∧ Blk W (K4 + 1) #[.int .i64 ((pre.length : Int) - 1)] ∧ Blk W (K4 + 1 + 1) #[.int .i64 7] ∧ FoundM gin gout beds W bf fl' ∧ Far w2.heap.size fl'
  bad : RV = ([], (pre.length : Int) - 1, 7)
  chg : Chg (fun k => k = bf ∨ k = K4 ∨ k = K4 + 1 ∨ k = K4 + 1 + 1) w2 W
theorem VisI.abc {gin gout : Int} {beds : List Int} {bf K4 : Nat} {w2 : World} (h1 : K4 < w2.heap.size) (h2 : bf < w2.heap.size) : AbC w2.heap.size (2 + 1) (VisI gin gout beds bf K4 w2) := by
  rintro pre A B row ⟨⟨acc, v, fl', a1, a2, a3, a4, a5⟩, hc⟩ hg hr
  have hx := grown_chg hg
  refine ⟨⟨acc, v, fl', a1, a2.chg hx ?_, a3.chg hx ?_, a4.chgN hx ?_ ?_, a5⟩, chgm_grown hc hg (fun r e => (hr r e).1)⟩
  · intro k hk e
    have := (World.ownsRow.lt a2 k hk).1
    have := hr k e
    omega
  · intro e
    have := hr _ e
    omega
  · intro e
    have := hr _ e
    omega
  · intro y hy e
    have := hr _ e
    have := a5 y hy
    omega
theorem VisI.ext {gin gout : Int} {beds : List Int} {bf K4 : Nat} {w2 W W' : World} {pre : List Sg} (h : VisI gin gout beds bf K4 w2 pre W) (hx : Ext W W') : VisI gin gout beds bf K4 w2 pre W' :=
  let ⟨acc, v, fl', a1, a2, a3, a4, a5⟩ := h.ex; ⟨⟨acc, v, fl', a1, a2.ext hx, a3.ext hx, a4.ext hx, a5⟩, h.chg.ext' hx⟩
theorem VisX.abc {gin gout : Int} {beds : List Int} {RV : List Ex × Int × Int} {bf K4 : Nat} {w2 : World} (h1 : K4 + 1 + 1 < w2.heap.size) (h2 : bf < w2.heap.size) (c : Code) : AbC w2.heap.size (2 + 1) (VisX gin gout beds RV bf K4 w2 c) := by
  rintro pre A B row ⟨e0, ⟨fl', a1, a2, a3, a4, a5⟩, hb, hc⟩ hg hr
  have hx := grown_chg hg
  refine ⟨e0, ⟨fl', a1.chg hx ?_, a2.chg hx ?_, a3.chg hx ?_, a4.chgN hx ?_ ?_, a5⟩, hb, chgm_grown hc hg (fun r e => (hr r e).1)⟩
  iterate 4 (intro e; have := hr _ e; omega)
  intro y hy e
  have := hr _ e
  have := a5 y hy
  omega
/-- The stand and the goal of a visit lie in memory. -/
structure VisA (f : Nat → Nat → Array Value) (B : Nat) (x : Sg) (a' : Act) (W : World) : Prop where
  ex : ∃ k7 k8, a' = { tmps := f k7 k8, defers := [] } ∧ B + 3 ≤ k7 ∧ B + 3 ≤ k8 ∧ Blk W k7 #[.int .i64 x.s.left, .bool x.s.inn] ∧ Blk W k8 #[.int .i64 x.g.score, .bool x.g.wins]
theorem VisA.abc (f : Nat → Nat → Array Value) (B : Nat) (x : Sg) (a' : Act) : AbC B (2 + 1) (fun (_ : Unit) W => VisA f B x a' W) := by
  rintro u A C row ⟨k7, k8, e, h1, h2, h3, h4⟩ hg hr
  have hx := grown_chg hg
  exact ⟨k7, k8, e, h1, h2, h3.chg hx (fun e => by have := hr _ e; omega), h4.chg hx (fun e => by have := hr _ e; omega)⟩
set_option maxRecDepth 100000 in
set_option maxHeartbeats 8000000 in
theorem mean_visits (start gin gout : Int) (beds : List Int) (ba : Option Addr) (bc kb bf : Nat) (fl : List (Sd × Nat)) (scores : List Int) (sa : Option Addr) (sc : Nat) (won : Bool) (w : World)
    (hb : Blk w kb #[.int .i64 start, .int .i64 gin, .int .i64 gout, .slice ba beds.length bc, .map (some bf)]) (hR : RdI S0 w (.slice ba beds.length bc) beds) (hl : beds.length ≤ 100) (hB : bedsB beds = true) (hs : 0 ≤ start ∧ start ≤ 2000) (hf : FoundM gin gout beds w bf fl) (hSc : RdI S0 w (.slice sa scores.length sc) scores) (hn : scores.length ≤ 1000) :
    Calls Try.prog 51 #[.pointer (some ⟨kb, 0, none⟩), .agg #[.int .i64 start, .int .i64 gin, .int .i64 gout, .slice ba beds.length bc, .slice sa scores.length sc, .bool won]] w fun e w' => ∃ v fl', e = .returned (.tuple #[v, .int .i64 (visR start gin gout beds scores won).2.1, .int .i64 (visR start gin gout beds scores won).2.2]) ∧ OwnX w' w.heap.size v (visR start gin gout beds scores won).1 ∧ FoundM gin gout beds w' bf fl' ∧ Chg (· = bf) w w' := by
  obtain ⟨RV, hRV⟩ : ∃ r, visR start gin gout beds scores won = r := ⟨_, rfl⟩
  rw [hRV]
  refine (callsIn_wide (n := 8)).1 ?_
  have HRV := Lib.hid hRV
  have HB := Lib.hid hb
  have HR := Lib.hid hR
  have HBD := Lib.hid hB
  have HF := Lib.hid hf
  have HLB := Lib.hid hl
  have HSB := Lib.hid hs
  have HSC := Lib.hid hSc
  have HLS := Lib.hid hn
  have hbf := hf.map.lt
  clear hRV hb hR hB hf hl hs hSc hn
  refine callsIn_of_wp_marks Try.func51 rfl trivial ?_ rfl
  simp only [Try.ntmps51, List.size_toArray, List.length_cons, List.length_nil, Nat.reduceAdd, Nat.reduceSub, Array.replicate_succ, Array.replicate_zero, List.push_toArray, List.append_toArray, List.nil_append, List.cons_append]
  gi_upto_region 1 with fail
  generalize hw1 : World.alloc (World.alloc (World.alloc (World.alloc (World.alloc w _) _) _) _) _ = w1
  obtain ⟨B, hBB⟩ : ∃ y, y = w.heap.size := ⟨_, rfl⟩
  rw [← hBB]
  have hx1 : Ext w w1 := by rw [← hw1]; exact (((((Ext.refl w).alloc _).alloc _).alloc _).alloc _).alloc _
  have H2 : Hid (Blk w1 B #[.pointer (some ⟨kb, 0, none⟩)]) := Lib.hid (by rw [← hw1, hBB]; exact ((((Blk.new w _ _).alloc _).alloc _).alloc _).alloc _)
  have H3 : Hid (Blk w1 (B + 1) #[.int .i64 start, .int .i64 gin, .int .i64 gout, .slice ba beds.length bc, .slice sa scores.length sc, .bool won]) := Lib.hid (by rw [← hw1]; exact (((Blk.at _ (by simp [hBB])).alloc _).alloc _).alloc _)
  have H4 : Hid (Blk w1 (B + 1 + 1) #[.slice none 0 0]) := Lib.hid (by rw [← hw1]; exact ((Blk.at _ (by simp [hBB])).alloc _).alloc _)
  have H5 : Hid (Blk w1 (B + 1 + 1 + 1) #[.int .i64 0]) := Lib.hid (by rw [← hw1]; exact (Blk.at _ (by simp [hBB])).alloc _)
  have H6 : Hid (Blk w1 (B + 1 + 1 + 1 + 1) #[.int .i64 0]) := Lib.hid (by rw [← hw1]; exact (Blk.at _ (by simp [hBB])))
  have HX1 := Lib.hid hx1
  have HBB := Lib.hid hBB
  clear hw1 hx1 hBB
  have l0 := H3.out.cell 0 (v := .int .i64 start) rfl
  have l1 := H3.out.cell 1 (v := .int .i64 gin) rfl
  have l2 := H3.out.cell 2 (v := .int .i64 gout) rfl
  have l3 := H3.out.cell 3 (v := .slice ba beds.length bc) rfl
  have l4 := H3.out.cell 4 (v := .slice sa scores.length sc) rfl
  have l5 := H3.out.cell 5 (v := .bool won) rfl
  have ll := H3.out.lt
  gi_wp2_with fail
  refine ⟨trivial, (callsIn_wide.2 (mean_goals start gin gout ba sa beds.length bc scores.length sc won w1)).mono ?_⟩
  rintro e w2 ⟨B1, rfl, hB1, hb1, hx2⟩
  have HB1 := Lib.hid hb1
  have HX2 := Lib.hid hx2
  clear l0 l1 l2 l3 l4 l5 ll hb1 hx2
  gi_wp2
  have HSEQ := Lib.hid (goals_seq (fun q => q = B + 1 + 1 ∨ w2.heap.size + 3 ≤ q) 7 start gin gout (.slice ba beds.length bc) scores sa sc won B1 w2 ⟨_, _, _, rfl⟩ HB1.out ((HSC.out.below (fun q hq => .inr (by have h1 := HBB.out; have h2 := HX1.out.size; have h3 := HX2.out.size; omega))).keep (Kc.of_ext (HX1.out.trans HX2.out))) HLS.out (by have := H4.out.lt; have := HX2.out.size; omega) (by have := H4.out.lt; have := HB1.out.lt; omega))
  have HF2 := Lib.hid (HF.out.ext (HX1.out.trans HX2.out))
  have hsz : B + 1 + 1 + 1 + 1 < w2.heap.size := Nat.lt_of_lt_of_le H6.out.lt HX2.out.size
  have hb2 : bf < B := by rw [HBB.out]; exact hbf
  have HSZ := Lib.hid (And.intro hsz hb2)
  clear hsz hb2 hbf
  refine wpIn_rangeFunc_w (α := Sg) (by decide) (gf := 79) (fb := #[]) (lb := #[.pointer (some ⟨B1, 0, none⟩)]) rfl enters_goals1 HSEQ.out Kc.trans (fun W l o o' _ h ho _ => Kc.put _ W l o o' h ho) (fun _ => rfl)
    (VisI gin gout beds bf (B + 1 + 1) w2) (VisX gin gout beds RV bf (B + 1 + 1) w2) (VisI.abc (by have := HSZ.out; omega) (by have := HSZ.out; omega)) (VisX.abc (by have := HSZ.out; omega) (by have := HSZ.out; omega))
    ?hV ?h0 (fun x => VisA (fun k7 k8 => #[.pointer (some ⟨kb, 0, none⟩), .agg #[.int .i64 start, .int .i64 gin, .int .i64 gout, .slice ba beds.length bc, .slice sa scores.length sc, .bool won], .pointer (some ⟨B, 0, none⟩), .pointer (some ⟨B + 1, 0, none⟩), .pointer (some ⟨B + 1 + 1, 0, none⟩), .pointer (some ⟨B + 1 + 1 + 1, 0, none⟩), .pointer (some ⟨B + 1 + 1 + 1 + 1, 0, none⟩), .pointer (some ⟨k7, 0, none⟩), .pointer (some ⟨k8, 0, none⟩), undef, .agg #[.int .i64 start, .int .i64 gin, .int .i64 gout, .slice ba beds.length bc, .slice sa scores.length sc, .bool won], .func (.func 79) #[] #[.pointer (some ⟨B1, 0, none⟩)], .agg #[.int .i64 x.s.left, .bool x.s.inn], .agg #[.int .i64 x.g.score, .bool x.g.wins], undef, undef, undef, undef, undef, undef, undef, undef, undef, undef, undef, undef, undef, undef, undef, undef]) w2.heap.size x) (fun x => VisA.abc _ _ x) ?assign ?body ?done ?stop
  case hV =>
    rintro pre x u A C row ⟨h1, h2⟩ hg hr
    exact ⟨h1, Nat.le_trans h2 hg.size⟩
  case h0 => exact ⟨⟨[], _, fl, VisTo.nil _ _ _, OwnX.nil _ _, H4.out.ext HX2.out, HF2.out, fun y hy => .inl (HF2.out.good y hy).1.lt⟩, Chg.refl _ _⟩
  case assign =>
    intro l pre x W K hi hv hK
    have HI := Lib.hid hi
    have HV := Lib.hid hv
    have HKK := Lib.hid hK
    clear hi hv hK
    obtain ⟨⟨sl, si⟩, ⟨gs, gw⟩⟩ := x
    dsimp only [Sd.agg, Gl.agg]
    gi_wp2
    have hx : Ext W ((W.alloc (.cells #[.int .i64 sl, .bool si] 119)).alloc (.cells #[.int .i64 gs, .bool gw] 121)) := ((Ext.refl W).alloc _).alloc _
    have hvs := HV.out.2
    refine HKK.out _ _ (kf_chg (hx.chg S0) (fun k hk => hk.elim)) (Kc.of_ext hx) (HI.out.ext hx) ⟨HV.out.1, Nat.le_trans hvs hx.size⟩ ⟨_, _, rfl, hvs, by omega, (Blk.new _ _ _).alloc _, Blk.at _ (by simp)⟩
  case body =>
    rintro l pre x a' W hi hv ⟨k7, k8, rfl, hk7, hk8, hb7, hb8⟩
    obtain ⟨⟨acc, v, fl1, hvt, hown, hb4, hfm, hfar⟩, hchg⟩ := hi
    obtain ⟨⟨k, hk, hpre, hx⟩, hsz⟩ := hv
    obtain ⟨va, vc, rfl⟩ := hown.shape
    have HVT := Lib.hid hvt
    have HOWN := Lib.hid hown
    have HB4 := Lib.hid hb4
    have HFM := Lib.hid hfm
    have HFAR := Lib.hid hfar
    have HCHG := Lib.hid hchg
    have HK := Lib.hid (And.intro hk (And.intro hpre hx))
    have HWS := Lib.hid hsz
    have HB7 := Lib.hid hb7
    have HB8 := Lib.hid hb8
    have HK78 := Lib.hid (And.intro hk7 hk8)
    clear hvt hown hb4 hfm hfar hchg hk hpre hx hsz hb7 hb8 hk7 hk8
    obtain ⟨⟨sl, si⟩, ⟨gs, gw⟩⟩ := x
    simp only at HB7 HB8
    have hls : 0 ≤ sl ∧ sl ≤ 2000 := by
      have h1 := HK.out.2.1
      have h2 : (⟨⟨sl, si⟩, ⟨gs, gw⟩⟩ : Sg) = gAt start scores won k := HK.out.2.2
      have h3 := HVT.out
      rw [h1] at h3
      have h4 := stT_bounds h3 HBD.out HSB.out k (Nat.le_refl _)
      have h5 : sl = (stT start scores k).left := congrArg (fun y : Sg => y.s.left) h2
      have h6 := HSB.out
      rw [h5]
      omega
    have HLS2 := Lib.hid hls
    obtain ⟨xo, hxo⟩ : ∃ y, exS (outS gin gout beds ⟨sl, si⟩) ⟨gs, gw⟩ = y := ⟨_, rfl⟩
    obtain ⟨xe, hxe⟩ : ∃ y, xo.getD noEx = y := ⟨_, rfl⟩
    have HLK : Hid (∀ W n, GoodM gin gout beds W n ⟨sl, si⟩ → (Instr.lookup 159 (.map (some n)) (.agg #[.int .i64 gs, .bool gw]) false).run Try.prog W = .ok (.agg #[.int .i64 xe.dl, .int .i64 xe.dh, .int .i64 xe.tl, .int .i64 xe.th, .bool xe.some]) W) := Lib.hid (fun W n ⟨lm, hm, ho⟩ => by
      have := (run_look keyL_goal under_out hm trivial (zero_ext W) ⟨gs, gw⟩).1
      unfold Gl.agg at this
      rw [this]
      congr 1
      rw [ho.look, hxo, ← hxe]
      cases xo <;> rfl)
    have HXO := Lib.hid hxo
    have HXE := Lib.hid hxe
    have HCW : Hid (Chg (· = bf) w W) := Lib.hid ((((HX1.out.trans HX2.out).chg (· = bf))).far HCHG.out (fun j hj => by
      rcases hj with h | h
      · exact .inl h
      · exact .inr (by have := HBB.out; omega)))
    have HKW := Lib.hid (kc_map HF.out.map HCW.out)
    have kY : ∀ {b cs}, Blk W b cs → b ≠ bf → ∀ y : Lat (fun b _ => b = bf) W, Blk y.world b cs := fun h hb y => h.chg y.chg (by rintro ⟨_, e⟩; exact hb e)
    have HCY : Hid (∀ y : Lat (fun b _ => b = bf) W, Chg (· = bf) W y.world) := Lib.hid (fun y => y.chg.mono (by rintro q - ⟨_, e⟩; exact e))
    have hBW : Blk W B #[.pointer (some ⟨kb, 0, none⟩)] := (H2.out.ext HX2.out).chg HCHG.out (by have := HSZ.out; omega)
    have y0 := fun y => (kY hBW (by have := HSZ.out; omega) y).cell 0 (v := .pointer (some ⟨kb, 0, none⟩)) rfl
    have y1 := fun y => (kY HB7.out (by have := HSZ.out; have := HK78.out; omega) y).cell 0 (v := .int .i64 sl) rfl
    have y2 := fun y => (kY HB7.out (by have := HSZ.out; have := HK78.out; omega) y).cell 1 (v := .bool si) rfl
    have y3 := fun y => (kY HB8.out (by have := HSZ.out; have := HK78.out; omega) y).cell 0 (v := .int .i64 gs) rfl
    have y4 := fun y => (kY HB8.out (by have := HSZ.out; have := HK78.out; omega) y).cell 1 (v := .bool gw) rfl
    have yl0 := hBW.lt
    have yl1 := HB7.out.lt
    have yl2 := HB8.out.lt
    have hbW : bf < W.heap.size := HFM.out.map.lt
    have HBFW := Lib.hid hbW
    clear kY hls hxo hxe hBW hbW
    gi_upto_region 4 with fail
    refine wpIn_lat_r l (by kernel_rfl) (by kernel_rfl) (fun b _ => b = bf) visN (VisRh xe) (VisGh gin gout beds ⟨sl, si⟩ bf W.heap.size fl1 xe) (by kernel_rfl)
      (fun k hk => by
        simp only [visN, Bool.or_eq_true, beq_iff_eq] at hk
        rcases hk with rfl | rfl | rfl | rfl <;> decide)
      (fun L L' u w' h hg => hg.congr (h 2 rfl) (h 5 rfl) (h 6 rfl) rfl rfl) (fun L u a b h hx => h.ext hx) (visU xe) (fun k _ => visU_R xe k) ⟨fun _ => HFM.out.ext (Ext.refl W).drew, fun h => (by cases h), fun h => (by cases h)⟩ ?_
    intro T hT hne2 u hu
    obtain ⟨nn, e2⟩ := (hu 2 rfl).r2 rfl
    have e4 : u 4 = .agg #[.int .i64 xe.dl, .int .i64 xe.dh, .int .i64 xe.tl, .int .i64 xe.th, .bool xe.some] := (hu 4 rfl).r4 rfl
    obtain ⟨k9, e5⟩ := (hu 5 rfl).r5 rfl
    refine lx_next 2 (by rfl) (by decide) ?_
    dsimp only [List.take, List.drop]
    repeat (go_big_quiet_step (fail))
    refine wpQuiet_nil ?_
    refine lx_loud (by rfl) (by kernel_rfl) ?_ (fun K hK => ?_)
    · intro L w4 hL hd hcl hC hs
      obtain ⟨y, rfl⟩ := hC
      have HS := Lib.hid hs
      have HL := Lib.hid hL
      have HCWY := Lib.hid (HCW.out.trans (HCY.out y))
      have HKWY := Lib.hid (kc_map HF.out.map HCWY.out)
      have hyS := y.size
      clear hs hL hd hcl
      go_wp2_with fail
      refine (mean_from start gin gout beds ba bc kb bf fl1 ⟨sl, si⟩ y.world (HKWY.out.blk HB.out id) (HR.out.keep HKWY.out) HLB.out HBD.out HLS2.out (HS.out.f0 HL.out)).mono ?_
      rintro e w5 ⟨n, fl', rfl, hf', hg', hp', hc'⟩
      have HFP := Lib.hid hf'
      have HGP := Lib.hid hg'
      have HPP := Lib.hid hp'
      have HCP := Lib.hid hc'
      clear hf' hg' hp' hc'
      go_wp2
      refine ⟨⟨fun _ => ⟨_, rfl⟩, fun h => absurd h (by decide), fun h => absurd h (by decide)⟩, ⟨y.chgd HCP.out (fun b hb => .inr fun _ => hb), rfl⟩, ⟨fun h => absurd h (by simp [upd]), fun _ => ⟨n, fl', rfl, HFP.out, HGP.out, fun z hz => (HPP.out z hz).imp id (fun h => Nat.le_trans hyS h)⟩, fun h5 => ?_⟩⟩
      obtain ⟨k, h1, h2, h3⟩ := HS.out.k9 h5
      exact ⟨k, h1, h2, h3.chg HCP.out (by have := HBFW.out; omega)⟩
    rw [e2]
    go_simp
    with_reducible refine hK _ ?_
    clear hK K
    refine lx_next 1 (by rfl) (by decide) ?_
    dsimp only [List.take, List.drop]
    repeat (go_big_quiet_step (fail))
    refine wpQuiet_nil ?_
    refine lx_loud (by rfl) (by kernel_rfl) ?_ (fun K hK => ?_)
    · intro L w4 hL hd hcl hC hs
      obtain ⟨y, rfl⟩ := hC
      obtain ⟨n, fl', en, hf', hg', hp'⟩ := hs.f2 (hd 2 (by kernel_rfl))
      obtain rfl : n = nn := by have h := en.symm.trans e2; cases h; rfl
      have hlk := HLK.out y.world n hg'
      have HS := Lib.hid hs
      clear hs hf' hg' hp' hL hd hcl en
      go_wp2
      exact ⟨⟨fun h => absurd h (by decide), fun _ => rfl, fun h => absurd h (by decide)⟩, ⟨y, rfl⟩, HS.out.congr rfl rfl rfl rfl rfl⟩
    rw [e4]
    go_simp
    with_reducible refine hK _ ?_
    clear hK K
    refine lx_loud (by rfl) (by kernel_rfl) ?_ (fun K hK => ?_)
    · intro L w4 hL hd hcl hC hs
      obtain ⟨y, rfl⟩ := hC
      have h6 := hcl.off hL 40 6 (by kernel_rfl)
      have HS := Lib.hid hs
      have hx : Ext y.world (y.world.alloc (.cells #[.int .i64 0, .int .i64 0, .int .i64 0, .int .i64 0, .bool false] 158)) := (Ext.refl _).alloc _
      have hy := y.size
      clear hs hL hd hcl
      go_wp2
      have hs' := HS.out.ext hx
      refine ⟨⟨fun h => absurd h (by decide), fun h => absurd h (by decide), fun _ => ⟨_, rfl⟩⟩, ⟨y.ext hx, rfl⟩, ⟨fun h => hs'.f0 h, fun h => hs'.f2 h, fun _ => ⟨y.world.heap.size, rfl, hy, ?_⟩⟩⟩
      rw [show upd L 5 6 = L 6 from rfl, h6]
      exact Blk.new _ _ _
    rw [e5]
    go_simp
    with_reducible refine hK _ ?_
    clear hK K
    refine lx_loud (by rfl) (by kernel_rfl) ?_ (fun K hK => ?_)
    · intro L w4 hL hd hcl hC hs
      obtain ⟨y, rfl⟩ := hC
      have H2L := Lib.hid (hd 2 (by kernel_rfl))
      obtain ⟨n, fl', en, hf', hg', hp'⟩ := hs.f2 H2L.out
      obtain ⟨k, ek, hk, hbk⟩ := hs.k9 (hd 5 (by kernel_rfl))
      obtain rfl : k = k9 := by have h := ek.symm.trans e5; cases h; rfl
      rw [hL] at hbk
      have hbk : Blk y.world k #[.int .i64 0, .int .i64 0, .int .i64 0, .int .i64 0, .bool false] := hbk
      have r0 := hbk.cell 0 (v := .int .i64 0) rfl
      have r1 := hbk.cell 1 (v := .int .i64 0) rfl
      have r2 := hbk.cell 2 (v := .int .i64 0) rfl
      have r3 := hbk.cell 3 (v := .int .i64 0) rfl
      have r4 := hbk.cell 4 (v := .bool false) rfl
      have rl := hbk.lt
      have rf0 := hbk.frozen 0
      have rf1 := hbk.frozen 1
      have rf2 := hbk.frozen 2
      have rf3 := hbk.frozen 3
      have rf4 := hbk.frozen 4
      have HBK := Lib.hid hbk
      have HHK := Lib.hid hk
      have HFP := Lib.hid hf'
      have HGP := Lib.hid hg'
      have HPP := Lib.hid hp'
      have HEN := Lib.hid en
      have HEK := Lib.hid ek
      have hbW := HBFW.out
      have hc5 := Lib.hid (fun v0 v1 v2 v3 v4 => five_chg (· = k) y.world (b := k) rfl v0 v1 v2 v3 v4)
      clear hs hL hd hcl hbk hk hf' hg' hp' en ek
      go_wp2
      refine ⟨⟨fun h => absurd h (by decide), fun h => absurd h (by decide), fun h => absurd h (by decide)⟩, ⟨y.chgd (hc5.out _ _ _ _ _) (fun b hb => .inl (by rw [show b = k from hb]; exact HHK.out)), rfl⟩, ⟨fun h => absurd h (by rw [show upd L 6 2 = L 2 from rfl, H2L.out]; simp), fun _ => ⟨n, fl', HEN.out, HFP.out.blk HBK.out (hc5.out _ _ _ _ _), HGP.out.blk HBK.out (hc5.out _ _ _ _ _), HPP.out⟩, fun _ => ⟨k, HEK.out, HHK.out, five_set HBK.out _ _ _ _ _⟩⟩⟩
    go_simp
    with_reducible refine hK _ ?_
    clear hK K
    refine lx_nil ?_
    intro y hs
    obtain ⟨n, fl', -, hf', hg', hp'⟩ := hs.f2 rfl
    obtain ⟨kx, ek, hk, hbk⟩ := hs.k9 rfl
    obtain rfl : kx = k9 := by have h := ek.symm.trans e5; cases h; rfl
    have hbk : Blk y.world kx #[.int .i64 xe.dl, .int .i64 xe.dh, .int .i64 xe.tl, .int .i64 xe.th, .bool xe.some] := hbk
    have HBK := Lib.hid hbk
    have HHK := Lib.hid hk
    have HFP := Lib.hid hf'
    have hpfar : Far w2.heap.size fl' := fun z hz => by
      rcases hp' z hz with h | h
      · exact HFAR.out z h
      · exact .inr (by have := HWS.out; omega)
    have HPP := Lib.hid hpfar
    have HC9 : Hid (Chg (fun k => k = bf ∨ k = B + 1 + 1) w2 y.world) := Lib.hid (HCHG.out.trans ((HCY.out y).mono (fun _ _ h => .inl h)))
    have HOWN9 : Hid (OwnX y.world (w2.heap.size + 3) (.slice va acc.length vc) acc) := Lib.hid (HOWN.out.chg (HCY.out y) (fun k hk e => by
      have h1 := (World.ownsRow.lt HOWN.out k hk).1
      have h2 := HSZ.out
      have e' : k = bf := e
      omega))
    have HB49 : Hid (Blk y.world (B + 1 + 1) #[.slice va acc.length vc]) := Lib.hid (HB4.out.chg (HCY.out y) (fun e => by
      have h2 := HSZ.out
      have e' : B + 1 + 1 = bf := e
      omega))
    have HYS := Lib.hid y.size
    have HKF : Hid (KeepsFrom w2.heap.size W y.world ∧ Kc S0 W y.world) := Lib.hid ⟨kf_chg (HCY.out y) (fun k hk => by have h2 := HSZ.out; have e' : k = bf := hk; omega), kc_map HFM.out.map (HCY.out y)⟩
    clear hs hf' hg' hp' hk hbk hpfar ek y0 y1 y2 y3 y4 yl0 yl1 yl2 hT hne2 hu e2 e4 e5
    generalize y.world = w9 at *
    clear y
    have r4 := HBK.out.cell 4 (v := .bool xe.some) rfl
    have rl := HBK.out.lt
    have f0 := HB49.out.cell 0 (v := .slice va acc.length vc) rfl
    have fl0 := HB49.out.lt
    have ff0 := HB49.out.frozen 0
    cases hsm : xe.some
    · rw [hsm] at r4
      have H59 : Hid (Blk w9 (B + 1 + 1 + 1) #[.int .i64 0]) := Lib.hid ((H5.out.ext HX2.out).chg HC9.out (by have := HSZ.out; omega))
      have H69 : Hid (Blk w9 (B + 1 + 1 + 1 + 1) #[.int .i64 0]) := Lib.hid ((H6.out.ext HX2.out).chg HC9.out (by have := HSZ.out; omega))
      have g0 := H59.out.cell 0 (v := .int .i64 0) rfl
      have gl0 := H59.out.lt
      have gf0 := H59.out.frozen 0
      have h0 := H69.out.cell 0 (v := .int .i64 0) rfl
      have hl0 := H69.out.lt
      have hf0 := H69.out.frozen 0
      gi_wp2
      obtain ⟨q0, q1, q2, qc⟩ := three_out HB49.out H59.out H69.out (.slice none 0 0) (.int .i64 acc.length) (.int .i64 7)
      have hno : exS (outS gin gout beds ⟨sl, si⟩) ⟨gs, gw⟩ = none := by
        have h1 := HXO.out
        have h2 := HXE.out
        cases xo with
        | none => exact h1
        | some e =>
          have h3 := (exS_some h1).some
          have h4 : e = xe := h2
          rw [h4, hsm] at h3
          cases h3
      have hbad : RV = ([], (((pre ++ [⟨⟨sl, si⟩, ⟨gs, gw⟩⟩] : List Sg).length : Int) - 1), 7) := by
        obtain ⟨l, hl⟩ := goT_split start scores won k HK.out.1
        rw [← HRV.out]
        unfold visR
        have h3 := HVT.out.stop (x := ⟨⟨sl, si⟩, ⟨gs, gw⟩⟩) hno l
        rw [hl, ← HK.out.2.1, ← HK.out.2.2, h3]
        simp
      have hal : ((acc.length : Int)) = (((pre ++ [⟨⟨sl, si⟩, ⟨gs, gw⟩⟩] : List Sg).length : Int) - 1) := by rw [HVT.out.len]; simp
      refine ⟨HKF.out.1.trans (kf_chg qc (fun j hj => by have := HSZ.out; rcases hj with h | h | h <;> omega)), rfl, ⟨fl', q0, by rw [← hal]; exact q1, q2, HFP.out.blks ?_ qc, HPP.out⟩, hbad, (HC9.out.mono ?_).trans (qc.mono ?_)⟩
      · rintro j (rfl | rfl | rfl)
        · exact ⟨_, HB49.out⟩
        · exact ⟨_, H59.out⟩
        · exact ⟨_, H69.out⟩
      · rintro j - (h | h)
        · exact .inl h
        · exact .inr (.inl h)
      · rintro j - h
        exact .inr h
    · rw [hsm] at r4
      have r0 := HBK.out.cell 0 (v := .int .i64 xe.dl) rfl
      have r1 := HBK.out.cell 1 (v := .int .i64 xe.dh) rfl
      have r2 := HBK.out.cell 2 (v := .int .i64 xe.tl) rfl
      have r3 := HBK.out.cell 3 (v := .int .i64 xe.th) rfl
      obtain ⟨i0, hi, hz0, hz1, hz2⟩ := info_parts info_mv
      have hlen : acc.length ≤ 1000 := by have h1 := HVT.out.len; have h2 := HK.out; rw [h1, h2.2.1, goT_len]; have := HLS.out; omega
      gi_wp2_with (refine wpListIn_append_own_at _ rfl _ _ 34 rfl (w2.heap.size + 3) 45 i0 _ 4 32 (by kernel_rfl) hi hz0 hz1 hz2 rfl (by decide) _ acc.length (acc.flatMap Ex.four) rfl (HOWN9.out.ext ((Ext.refl w9).alloc _)) ⟨w9.heap.size, 0, none⟩ 1 1 xe.four rfl rfl ?_ ?_ (by unfold maxLen; omega) (by omega) ?_ ?_)
      · intro j u hj
        rw [addr_add, Nat.zero_add]
        have hj' : (#[.int .i64 xe.dl, .int .i64 xe.dh, .int .i64 xe.tl, .int .i64 xe.th] : Array Value)[j]? = some u := by rw [← Array.getElem?_toList]; exact hj
        exact (Blk.new w9 _ _).cell j hj'
      · intro u hu
        simp only [Ex.four, List.mem_cons, List.not_mem_nil, or_false] at hu
        rcases hu with rfl | rfl | rfl | rfl <;> rfl
      · have h1 := HWS.out
        have h2 := HYS.out
        simp
        omega
      intro v' w10 ho10 hg10 _ hat
      have hok : exS (outS gin gout beds ⟨sl, si⟩) ⟨gs, gw⟩ = some xe := by
        have h1 := HXO.out
        have h2 := HXE.out
        cases xo with
        | none =>
          have h4 : noEx = xe := h2
          rw [← h4] at hsm
          cases hsm
        | some e =>
          have h4 : e = xe := h2
          rw [← h4]
          exact h1
      have hX10 : Chg (fun q => (Value.slice va acc.length vc).ownBlock = some q) w9 w10 := ((((Ext.refl w9).alloc _).chg _)).trans (grown_chg hg10)
      have ho11 : OwnX w10 (w2.heap.size + 3) v' (acc ++ [xe]) := by
        show w10.ownsRow _ _ _ _ (acc ++ [xe]).length ((acc ++ [xe]).flatMap Ex.four)
        rw [List.length_append, List.flatMap_append]
        simpa using ho10
      have hob : ∀ q, (Value.slice va acc.length vc).ownBlock = some q → w2.heap.size + 3 ≤ q ∧ ∃ cs, Blk w9 q cs := by
        intro q hq
        have h1 := World.ownsRow.lt HOWN9.out q hq
        obtain ⟨-, ⟨e, -⟩ | ⟨g, cap, cur, e, -, h3, -⟩⟩ := HOWN9.out
        · rw [e] at hq; cases hq
        · rw [e] at hq; cases hq; exact ⟨h1.1, _, _, h3⟩
      have hb410 : Blk w10 (B + 1 + 1) #[.slice va acc.length vc] := HB49.out.chg hX10 (fun e => by have := (hob _ e).1; have := HSZ.out; omega)
      have hf10 : FoundM gin gout beds w10 bf fl' := HFP.out.blks (fun q hq => (hob q hq).2) hX10
      obtain ⟨va', vc', ev⟩ := ho11.shape
      rw [show (acc ++ [xe]).length = acc.length + 1 by simp] at ev
      subst ev
      have HF10 := Lib.hid hf10
      have HO11 := Lib.hid ho11
      have HB410 := Lib.hid hb410
      have HX10 := Lib.hid hX10
      have HOB := Lib.hid hob
      have HOK := Lib.hid hok
      have s0 := hb410.cell 0 (v := .slice va acc.length vc) rfl
      have sl0 := hb410.lt
      have sf0 := hb410.frozen 0
      clear hf10 ho11 hb410 hX10 hob hok hg10 hat r0 r1 r2 r3 r4 f0 fl0 ff0 rl hi hz0 hz1 hz2 ho10
      gi_wp2
      have hset := one_set HB410.out (.slice va' (acc.length + 1) vc')
      have hc := one_chg (· = B + 1 + 1) w10 (b := B + 1 + 1) rfl (.slice va' (acc.length + 1) vc')
      have hkc : Kc (fun q => q = B + 1 + 1 ∨ w2.heap.size + 3 ≤ q) w9 _ := (Kc.of_chg (HX10.out.mono (fun q _ h => .inr (HOB.out q h).1))).trans (Kc.of_chg (hc.mono (fun q _ h => .inl h)))
      refine ⟨HKF.out.1.trans ((kf_cells HX10.out (fun q hq => (HOB.out q hq).2)).trans (kf_chg hc ?_)), (HKF.out.2.mono (fun _ h => h.elim)).trans hkc, ⟨acc ++ [xe], _, fl', HVT.out.snoc (x := ⟨⟨sl, si⟩, ⟨gs, gw⟩⟩) HOK.out, HO11.out.chg hc ?_, hset, HF10.out.blk HB410.out hc, HPP.out⟩, ?_⟩
      · rintro q rfl
        have := HSZ.out
        omega
      · rintro q hq e
        have h1 := (World.ownsRow.lt HO11.out q hq).1
        have h2 := HSZ.out
        have e' : q = B + 1 + 1 := e
        omega
      · refine (HC9.out.far HX10.out (fun q hq => .inr ?_)).trans (hc.mono (fun q _ h => .inr h))
        have := (HOB.out q hq).1
        omega
  case done =>
    rintro D xs W hD rfl hi hdf
    obtain ⟨⟨acc, v, fl1, hvt, hown, hb4, hfm, hfar⟩, hchg⟩ := hi
    obtain ⟨va, vc, rfl⟩ := hown.shape
    have HDF := Lib.hid hdf
    have HVT := Lib.hid hvt
    have HOWN := Lib.hid hown
    have HB4 := Lib.hid hb4
    have HFM := Lib.hid hfm
    have HCHG := Lib.hid hchg
    have H59 : Hid (Blk W (B + 1 + 1 + 1) #[.int .i64 0]) := Lib.hid ((H5.out.ext HX2.out).chg hchg (by have := HSZ.out; omega))
    have H69 : Hid (Blk W (B + 1 + 1 + 1 + 1) #[.int .i64 0]) := Lib.hid ((H6.out.ext HX2.out).chg hchg (by have := HSZ.out; omega))
    have f0 := hb4.cell 0 (v := .slice va acc.length vc) rfl
    have fl0 := hb4.lt
    have ff0 := hb4.frozen 0
    have g0 := H59.out.cell 0 (v := .int .i64 0) rfl
    have gl0 := H59.out.lt
    have gf0 := H59.out.frozen 0
    have h0 := H69.out.cell 0 (v := .int .i64 0) rfl
    have hl0 := H69.out.lt
    have hf0 := H69.out.frozen 0
    clear hvt hown hb4 hfm hfar hchg hdf
    gi_wp2
    obtain ⟨q0, q1, q2, qc⟩ := three_out HB4.out H59.out H69.out (.slice va acc.length vc) (.int .i64 0) (.int .i64 0)
    generalize World.setCell _ _ _ = W3 at q0 q1 q2 qc ⊢
    have hmk : Marks w2.heap.size W3 [D] := Marks.one hD (qc.heap HDF.out (fun e => by have := HSZ.out; rcases e with e | e | e <;> omega))
    show LeavesInM _ _ _ _ _ _ ([D].map markOf) .returning _
    refine ret_mN (v := .tuple #[.slice va acc.length vc, .int .i64 0, .int .i64 0]) (lo := w2.heap.size) (w := W3) [D] W3 .refl hmk ?_
    intro W' hsh
    have c0 := (hsh.blk q0).cell 0 (v := .slice va acc.length vc) rfl
    have c1 := (hsh.blk q1).cell 0 (v := .int .i64 0) rfl
    have c2 := (hsh.blk q2).cell 0 (v := .int .i64 0) rfl
    have hRV : RV = (acc, 0, 0) := by rw [← HRV.out]; exact HVT.out.done
    refine ⟨by simp [results, Try.results51, go_sem, c0, c1, c2], _, fl1, by rw [hRV], ?_, (HFM.out.blks ?_ qc).shut hsh, ?_⟩
    · rw [hRV]
      refine hsh.own (own_mono (HOWN.out.chg qc ?_) ?_)
      · rintro q hq e
        have h1 := (World.ownsRow.lt HOWN.out q hq).1
        have h2 := HSZ.out
        rcases e with e | e | e <;> omega
      · have h1 := HX1.out.size
        have h2 := HX2.out.size
        omega
    · rintro j (rfl | rfl | rfl)
      · exact ⟨_, HB4.out⟩
      · exact ⟨_, H59.out⟩
      · exact ⟨_, H69.out⟩
    · refine hsh.chg ((((HX1.out.trans HX2.out).chg (· = bf)).far HCHG.out ?_).far qc ?_) (Nat.le_trans HX1.out.size HX2.out.size)
      · rintro j (h | h)
        · exact .inl h
        · exact .inr (by have := HBB.out; omega)
      · rintro j (h | h | h) <;> exact .inr (by have := HBB.out; omega)
  case stop =>
    rintro D c pre W hD - ⟨rfl, ⟨fl', q0, q1, q2, hfm, hfar⟩, hbad, hchg⟩ hdf
    gi_wp2
    show LeavesInM _ _ _ _ _ _ ([D].map markOf) .returning _
    refine ret_mN (v := .tuple #[.slice none 0 0, .int .i64 ((pre.length : Int) - 1), .int .i64 7]) (lo := w2.heap.size) (w := W) [D] W .refl (Marks.one hD hdf) ?_
    intro W' hsh
    have c0 := (hsh.blk q0).cell 0 (v := .slice none 0 0) rfl
    have c1 := (hsh.blk q1).cell 0 (v := .int .i64 ((pre.length : Int) - 1)) rfl
    have c2 := (hsh.blk q2).cell 0 (v := .int .i64 7) rfl
    refine ⟨by simp [results, Try.results51, go_sem, c0, c1, c2], _, fl', by rw [hbad], by rw [hbad]; exact OwnX.nil _ _, hfm.shut hsh, ?_⟩
    refine hsh.chg (((HX1.out.trans HX2.out).chg (· = bf)).far hchg ?_) (Nat.le_trans HX1.out.size HX2.out.size)
    rintro j (h | h | h | h)
    · exact .inl h
    all_goals exact .inr (by have := HBB.out; omega)
end Go.Proofs.Ytmopadnkjlodnaa
