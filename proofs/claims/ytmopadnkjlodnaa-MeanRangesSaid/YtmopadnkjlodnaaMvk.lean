/-
  Package mean: Visits.
-/
import Derived.Test.YtmopadnkjlodnaaMvj
namespace Go.Proofs.Ytmopadnkjlodnaa
open Go.RowKit Go.BigFrame
attribute [local go_sem] Oper.semAt_some Later.cell Later.frozen Lat.cell Lat.frozen NoX
/-- A leg whose lists can be read. -/
structure LegR (l : Leg) (ba sa : Option Addr) (bc sc : Nat) (w : World) : Prop where
  beds : RdI S0 w (.slice ba l.beds.length bc) l.beds
  scores : RdI S0 w (.slice sa l.scores.length sc) l.scores
  wb : ∀ b ∈ l.beds, I64 b
  ws : ∀ b ∈ l.scores, I64 b
  wst : I64 l.start
theorem LegR.ext {l : Leg} {ba sa : Option Addr} {bc sc : Nat} {w w' : World} (h : LegR l ba sa bc sc w) (hx : Ext w w') : LegR l ba sa bc sc w' := ⟨h.beds.ext hx, h.scores.ext hx, h.wb, h.ws, h.wst⟩
theorem RdI.len {S : Nat → Prop} {W : World} {a : Option Addr} {n c : Nat} {xs : List Int} (h : RdI S W (.slice a n c) xs) : xs.length ≤ 9223372036854775807 := by
  obtain ⟨_, _, _, -, h2, h3, -⟩ := h.cells
  unfold maxLen at h3
  omega
def Leg.agg (l : Leg) (ba sa : Option Addr) (bc sc : Nat) : Value := .agg #[.int .i64 l.start, .int .i64 l.gin, .int .i64 l.gout, .slice ba l.beds.length bc, .slice sa l.scores.length sc, .bool l.won]
theorem LegR.at {l : Leg} {ba sa : Option Addr} {bc sc : Nat} {w : World} (h : LegR l ba sa bc sc w) : LegAt w l (l.agg ba sa bc sc) :=
  ⟨⟨ba, bc, sa, sc, rfl, (rd_cells h.beds).2, (rd_cells h.scores).2⟩, h.beds.len, h.scores.len, h.wb, h.ws, h.wst⟩
/-- The spans of the visits of any leg, or the error. -/
def vstF (l : Leg) : List Ex × Int × Int := if l.ok = true then visR l.start l.gin l.gout l.beds l.scores l.won else ([], 0, 2)
theorem Leg.ok_spec {l : Leg} (h : l.ok = true) : bedsB l.beds = true ∧ l.beds.length ≤ 82 ∧ (2 ≤ l.start ∧ l.start ≤ 1001) ∧ l.scores.length ≤ 100 := by
  unfold Leg.ok lawsB at h
  simp only [Bool.and_eq_true, decide_eq_true_eq, ins, out1, List.any_cons, List.any_nil, Bool.or_false, Bool.not_eq_true'] at h
  obtain ⟨⟨h1, ⟨h2, h3⟩, h4⟩, h5, -⟩ := h
  simp at h2 h4
  exact ⟨h1, by omega, by omega, h5⟩
structure VstG (l : Leg) (ba : Option Addr) (bc base : Nat) (RV : List Ex × Int × Int) (L : Nat → Bool) (u : Nat → Value) (W : World) : Prop where
  k5 : L 5 = true → ∃ kb bf, u 5 = .pointer (some ⟨kb, 0, none⟩) ∧ base ≤ kb ∧ base ≤ bf ∧ Blk W kb #[.int .i64 l.start, .int .i64 l.gin, .int .i64 l.gout, .slice ba l.beds.length bc, .map (some bf)] ∧ (L 7 = false → MapL Sd.agg mpK W bf [])
  k7 : L 7 = true → ∃ v, u 7 = .tuple #[v, .int .i64 RV.2.1, .int .i64 RV.2.2] ∧ OwnX W base v RV.1
theorem VstG.ext {l : Leg} {ba : Option Addr} {bc base : Nat} {RV : List Ex × Int × Int} {L : Nat → Bool} {u : Nat → Value} {W W' : World} (h : VstG l ba bc base RV L u W) (hx : Ext W W') : VstG l ba bc base RV L u W' :=
  ⟨fun e => let ⟨kb, bf, h1, h2, h3, h4, h5⟩ := h.k5 e; ⟨kb, bf, h1, h2, h3, h4.ext hx, fun e => (h5 e).ext hx⟩, fun e => let ⟨v, h1, h2⟩ := h.k7 e; ⟨v, h1, h2.ext hx⟩⟩
theorem VstG.congr {l : Leg} {ba : Option Addr} {bc base : Nat} {RV : List Ex × Int × Int} {L L' : Nat → Bool} {u : Nat → Value} {W : World} (h : VstG l ba bc base RV L u W) (e5 : L' 5 = L 5) (e7 : L' 7 = L 7) : VstG l ba bc base RV L' u W :=
  ⟨fun e => let ⟨kb, bf, h1, h2, h3, h4, h5⟩ := h.k5 (e5 ▸ e); ⟨kb, bf, h1, h2, h3, h4, fun e => h5 (e7 ▸ e)⟩, fun e => h.k7 (e7 ▸ e)⟩
structure VstR (RV : List Ex × Int × Int) (k : Nat) (v : Value) : Prop where
  r5 : k = 5 → ∃ b, v = .pointer (some ⟨b, 0, none⟩)
  r7 : k = 7 → ∃ a c, v = .tuple #[.slice a RV.1.length c, .int .i64 RV.2.1, .int .i64 RV.2.2]
def vstU (RV : List Ex × Int × Int) (k : Nat) : Value := if k = 5 then .pointer (some ⟨0, 0, none⟩) else .tuple #[.slice none RV.1.length 0, .int .i64 RV.2.1, .int .i64 RV.2.2]
theorem vstU_R (RV : List Ex × Int × Int) (k : Nat) : VstR RV k (vstU RV k) := ⟨by rintro rfl; exact ⟨0, rfl⟩, by rintro rfl; exact ⟨none, 0, rfl⟩⟩
def vstN (k : Nat) : Bool := k == 5 || k == 7
set_option maxRecDepth 100000 in
set_option maxHeartbeats 8000000 in
theorem mean_Visits (l : Leg) (ba sa : Option Addr) (bc sc : Nat) (w : World) (h : LegR l ba sa bc sc w) :
    Calls Try.prog 17 #[l.agg ba sa bc sc] w fun e w' => ∃ v, e = .returned (.tuple #[v, .int .i64 (vstF l).2.1, .int .i64 (vstF l).2.2]) ∧ OwnX w' w.heap.size v (vstF l).1 ∧ Ext w w' := by
  obtain ⟨RV, hRV⟩ : ∃ r, vstF l = r := ⟨_, rfl⟩
  rw [hRV]
  have HRV := Lib.hid hRV
  have HL := Lib.hid h
  clear hRV h
  have HCK := Lib.hid (fun W (hx : Ext w W) => mean_Check l _ W (HL.out.ext hx).at)
  unfold Leg.agg at HCK ⊢
  go_enter Try.func17, Try.ntmps17
  go_upto_region 1 with fail
  obtain ⟨w1, hw1⟩ : ∃ y, y = w.alloc (.cells #[.int .i64 l.start, .int .i64 l.gin, .int .i64 l.gout, .slice ba l.beds.length bc, .slice sa l.scores.length sc, .bool l.won] 28) := ⟨_, rfl⟩
  rw [← hw1]
  have HX1 : Hid (Ext w w1) := Lib.hid (by rw [hw1]; exact (Ext.refl w).alloc _)
  have HB1 : Hid (Blk w1 w.heap.size #[.int .i64 l.start, .int .i64 l.gin, .int .i64 l.gout, .slice ba l.beds.length bc, .slice sa l.scores.length sc, .bool l.won]) := Lib.hid (by rw [hw1]; exact Blk.new _ _ _)
  clear hw1
  have l0 := HB1.out.cell 0 (v := .int .i64 l.start) rfl
  have l1 := HB1.out.cell 1 (v := .int .i64 l.gin) rfl
  have l2 := HB1.out.cell 2 (v := .int .i64 l.gout) rfl
  have l3 := HB1.out.cell 3 (v := .slice ba l.beds.length bc) rfl
  have l4 := HB1.out.cell 4 (v := .slice sa l.scores.length sc) rfl
  have l5 := HB1.out.cell 5 (v := .bool l.won) rfl
  have ll := HB1.out.lt
  go_wp2_with fail
  refine (HCK.out w1 HX1.out).mono ?_
  rintro e w2 ⟨rfl, hx2⟩
  have HX2 := Lib.hid (HX1.out.trans hx2)
  have HB2 := Lib.hid (HB1.out.ext hx2)
  clear l0 l1 l2 l3 l4 l5 ll hx2
  cases hok : l.ok
  · have e : RV = ([], 0, 2) := by rw [← HRV.out]; unfold vstF; rw [hok]; rfl
    have HE := Lib.hid e
    rw [Leg.err_bad hok]
    clear e
    go_wp2
    refine bodyPost_ret (v := .tuple #[.slice none 0 0, .int .i64 0, .int .i64 2]) (by simp [results, Try.results17, go_sem]) rfl ⟨_, by rw [HE.out], by rw [HE.out]; exact OwnX.nil _ _, HX2.out⟩
  · rw [Leg.err_ok hok]
    have HOK := Lib.hid (Leg.ok_spec hok)
    have e : RV = visR l.start l.gin l.gout l.beds l.scores l.won := by rw [← HRV.out]; unfold vstF; rw [if_pos hok]
    have HE := Lib.hid e
    clear e
    have y0 : ∀ y : Lat NoX w2, y.world.cell? ⟨w.heap.size, 0, none⟩ = some (.int .i64 l.start) := fun y => (HB2.out.ext (Lat.ext0 y)).cell 0 rfl
    have y1 : ∀ y : Lat NoX w2, y.world.cell? ⟨w.heap.size, 1, none⟩ = some (.int .i64 l.gin) := fun y => (HB2.out.ext (Lat.ext0 y)).cell 1 rfl
    have y2 : ∀ y : Lat NoX w2, y.world.cell? ⟨w.heap.size, 2, none⟩ = some (.int .i64 l.gout) := fun y => (HB2.out.ext (Lat.ext0 y)).cell 2 rfl
    have y3 : ∀ y : Lat NoX w2, y.world.cell? ⟨w.heap.size, 3, none⟩ = some (.slice ba l.beds.length bc) := fun y => (HB2.out.ext (Lat.ext0 y)).cell 3 rfl
    have y4 : ∀ y : Lat NoX w2, y.world.cell? ⟨w.heap.size, 4, none⟩ = some (.slice sa l.scores.length sc) := fun y => (HB2.out.ext (Lat.ext0 y)).cell 4 rfl
    have y5 : ∀ y : Lat NoX w2, y.world.cell? ⟨w.heap.size, 5, none⟩ = some (.bool l.won) := fun y => (HB2.out.ext (Lat.ext0 y)).cell 5 rfl
    go_upto_region 4 with fail
    refine wp_region_lat (by kernel_rfl) NoX vstN (VstR RV) (VstG l ba bc w2.heap.size RV) (by kernel_rfl)
      (fun k hk => by
        simp only [vstN, Bool.or_eq_true, beq_iff_eq] at hk
        rcases hk with rfl | rfl <;> decide)
      (fun L L' u w' h hg => hg.congr (h 5 rfl) (h 7 rfl)) (fun L u a b h hx => h.ext hx) (vstU RV) (fun k _ => vstU_R RV k) ⟨fun h => (by cases h), fun h => (by cases h)⟩ ?_
    intro T hT hne2 u hu
    obtain ⟨kb, e5⟩ := (hu 5 rfl).r5 rfl
    obtain ⟨va, vc, e7⟩ := (hu 7 rfl).r7 rfl
    refine lx_next 5 (by rfl) (by decide) ?_
    dsimp only [List.take, List.drop]
    repeat (go_big_quiet_step (fail))
    refine wpQuiet_nil ?_
    refine lx_loud (by rfl) (by kernel_rfl) ?_ (fun K hK => ?_)
    · intro L w4 hL hd hcl hC hs
      obtain ⟨y, rfl⟩ := hC
      have h7 := hcl.off hL 40 7 (by kernel_rfl)
      have hy := y.size
      go_wp2_with fail
      refine (mean_newBoard l.start l.gin l.gout ba l.beds.length bc y.world).mono ?_
      rintro e w5 ⟨k, bf, rfl, hk1, hk2, hbk, hmp, hx⟩
      go_wp2
      exact ⟨⟨fun _ => ⟨_, rfl⟩, fun h => absurd h (by decide)⟩, ⟨y.ext hx, rfl⟩, ⟨fun _ => ⟨k, bf, rfl, by omega, by omega, hbk, fun _ => hmp⟩, fun h => absurd h (by rw [show upd L 5 7 = L 7 from rfl, h7]; simp)⟩⟩
    rw [e5]
    go_simp
    with_reducible refine hK _ ?_
    clear hK K
    refine lx_next 1 (by rfl) (by decide) ?_
    dsimp only [List.take, List.drop]
    repeat (go_big_quiet_step (fail))
    refine wpQuiet_nil ?_
    refine lx_loud (by rfl) (by kernel_rfl) ?_ (fun K hK => ?_)
    · intro L w4 hL hd hcl hC hs
      obtain ⟨y, rfl⟩ := hC
      obtain ⟨k, bf, ek, hk1, hk2, hbk, hmp⟩ := hs.k5 (hd 5 (by kernel_rfl))
      obtain rfl : k = kb := by have h := ek.symm.trans e5; cases h; rfl
      have hmp := hmp hL
      have hy := y.size
      have hok := HOK.out
      have hX := HX2.out.trans (Lat.ext0 y)
      have hne : ¬ k = bf := by
        rintro rfl
        obtain ⟨t, ht⟩ := hbk
        exact hmp.notCells ht
      go_wp2_with fail
      refine (mean_visits l.start l.gin l.gout l.beds ba bc k bf [] l.scores sa sc l.won y.world hbk (HL.out.beds.ext hX) (by omega) hok.1 (by omega) ⟨hmp, fun x hx => by cases hx⟩ (HL.out.scores.ext hX) (by omega)).mono ?_
      rintro e w5 ⟨v, fl', rfl, hv, hf', hc⟩
      rw [← HE.out] at hv ⊢
      obtain ⟨va', vc', rfl⟩ := hv.shape
      go_wp2
      exact ⟨⟨fun h => absurd h (by decide), fun _ => ⟨_, _, rfl⟩⟩, ⟨y.chgd hc (fun b hb => .inl (by have e : b = bf := hb; omega)), rfl⟩, ⟨fun _ => ⟨k, bf, ek, hk1, hk2, hbk.chg hc hne, fun h => absurd h (by simp [upd])⟩, fun _ => ⟨_, rfl, own_mono hv hy⟩⟩⟩
    rw [e7]
    go_simp
    with_reducible refine hK _ ?_
    clear hK K
    refine lx_next 6 (by rfl) (by decide) ?_
    dsimp only [List.take, List.drop]
    repeat (go_big_quiet_step (fail))
    refine wpQuiet_nil ?_
    refine lx_nil ?_
    intro y hs
    obtain ⟨v, ev, hv⟩ := hs.k7 rfl
    obtain rfl : v = .slice va RV.1.length vc := by have h := ev.symm.trans e7; cases h; rfl
    have HV := Lib.hid hv
    have HXY := Lib.hid (Lat.ext0 y)
    have HSY := Lib.hid (Nat.le_trans HX2.out.size (Nat.le_refl w2.heap.size))
    clear hs hv ev hT hne2 y0 y1 y2 y3 y4 y5 hu e5 e7
    generalize y.world = w9 at *
    go_wp2
    refine bodyPost_ret (v := .tuple #[.slice va RV.1.length vc, .int .i64 RV.2.1, .int .i64 RV.2.2]) (by simp [results, Try.results17, go_sem]) rfl ⟨_, rfl, own_mono HV.out HSY.out, HX2.out.trans HXY.out⟩
end Go.Proofs.Ytmopadnkjlodnaa
