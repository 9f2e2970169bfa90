/-
  Package mean: one more dart of a visit, at one bed (a round of from).
-/
import Derived.Test.YtmopadnkjlodnaaMfa
import Derived.Test.YtmopadnkjlodnaaMfp
import Derived.Test.YtmopadnkjlodnaaMal
import Derived.Test.YtmopadnkjlodnaaRcj
namespace Go.Proofs.Ytmopadnkjlodnaa
open Go.RowKit Go.BigFrame
attribute [local go_sem] Oper.semAt_some Later.cell Later.frozen Lat.cell Lat.frozen NoX
theorem Lat.ext1 {w : World} (y : Lat (fun b _ => w.heap.size ≤ b) w) : Ext w y.world := Chg.to_ext (Ext.refl w) y.chg (by rintro i ⟨_, h⟩; exact h)
/-- The body of the first loop over a function. -/
def codeRnd : Code → Option Code
  | .rangeFunc _ _ _ b => some b
  | .block _ c => codeRnd c
  | .seq a b => match codeRnd a with
    | some c => some c
    | none => codeRnd b
  | .cond _ a b => match codeRnd a with
    | some c => some c
    | none => codeRnd b
  | .loop c => codeRnd c
  | _ => none
/-- What a dart with effect e turns. -/
def rndO (e : Int) (sl dart tried : Int) (lo : List (Gl × Ex)) : List (Gl × Ex) :=
  if e = 1 then putL lo ⟨sl, true⟩ (addX ((lookL lo ⟨sl, true⟩).getD noEx) (dart + 1) tried) else if e = 2 then putL lo ⟨0, false⟩ (addX ((lookL lo ⟨0, false⟩).getD noEx) (dart + 1) tried) else lo
def rndL (e : Int) (n : Nw) (ln : List (Nw × Yes)) : List (Nw × Yes) := if e = 1 then ln else if e = 2 then ln else putL ln n .yes
def RndG (base bo nx : Nat) (w : World) (lo' : List (Gl × Ex)) (ln' : List (Nw × Yes)) (W : World) : Prop := KeepsFrom base w W ∧ Kc S0 w W ∧ MapL Gl.agg Ex.agg W bo lo' ∧ MapL Nw.agg Yes.val W nx ln' ∧ Chg (fun k => k = bo ∨ k = nx) w W
theorem rnd_fin {base bo nx : Nat} {w W : World} {lo lo' : List (Gl × Ex)} {ln ln' : List (Nw × Yes)} (hc : Chg (fun k => k = bo ∨ k = nx) w W) (h1 : MapL Gl.agg Ex.agg w bo lo) (h2 : MapL Nw.agg Yes.val w nx ln) (hb : bo < base ∧ nx < base) (h3 : MapL Gl.agg Ex.agg W bo lo') (h4 : MapL Nw.agg Yes.val W nx ln') : RndG base bo nx w lo' ln' W :=
  ⟨kf_chg hc (by rintro k (rfl | rfl); exact hb.1; exact hb.2), ⟨hc.size, fun k cs t f hk _ => hc.heap hk (by rintro (rfl | rfl); exact h1.notCells hk; exact h2.notCells hk)⟩, h3, h4, hc⟩
set_option maxRecDepth 100000 in
set_option maxHeartbeats 8000000 in
theorem from_round (c : Code) (hc : codeRnd (Try.f77.body.getD .skip) = some c) (lp : Nat) (start gin gout sl left x dart tried tr0 : Int) (si inn : Bool) (bn bc : Nat) (ba : Option Addr) (bf B2 kb S3 O7 K8 K10 K11 K12 K13 bo nx base : Nat) (lo : List (Gl × Ex)) (ln : List (Nw × Yes)) (w : World) (g0 g1 g4 g5 g6 g7 g9 g15 g16 g17 g18 g19 g20 g21 g22 g23 g24 g25 g26 g27 g28 g29 g30 g31 g32 g33 g34 g35 g36 g37 g38 g39 g40 g41 g42 g43 g44 g45 g46 g47 g48 g49 g50 g51 g52 g53 g54 g55 g56 g57 g58 g59 g60 g61 g62 g63 g64 g65 g66 g67 g68 g69 g70 g71 g72 g73 g74 g75 g76 g77 g78 g79 g80 g81 g82 g83 g84 g85 g86 g87 g88 g89 g90 g91 g92 g93 g94 g95 g96 g97 g98 g99 g100 g101 g102 g103 g104 g105 g106 g107 g108 g109 g110 g111 g112 g113 g114 g115 g116 g117 g118 g119 g120 : Value)
    (h2 : Blk w B2 #[.pointer (some ⟨kb, 0, none⟩)]) (hk : Blk w kb #[.int .i64 start, .int .i64 gin, .int .i64 gout, .slice ba bn bc, .map (some bf)]) (hS : Blk w S3 #[.int .i64 sl, .bool si]) (hO : Blk w O7 #[.map (some bo)]) (h8 : Blk w K8 #[.func (.func 94) #[] #[.pointer (some ⟨O7, 0, none⟩)]])
    (h10 : Blk w K10 #[.int .i64 dart]) (h11 : Blk w K11 #[.map (some nx)]) (h12 : Blk w K12 #[.int .i64 left, .bool inn, .int .i64 tr0]) (h13 : Blk w K13 #[.int .i64 tried]) (hlo : MapL Gl.agg Ex.agg w bo lo) (hln : MapL Nw.agg Yes.val w nx ln) (hne : bo ≠ nx) (hx : I64 x) (hl : I64 (left - wrt x)) (hd : 0 ≤ dart ∧ dart ≤ 3) (hbo : bo < base) (hnx : nx < base) :
    c.wpIn (Fence.wide.inRound lp) 6 Try.prog (fun e _ W => e = .normal ∧ RndG base bo nx w (rndO (hitS gin gout left inn x).2.2 sl dart tried lo) (rndL (hitS gin gout left inn x).2.2 ⟨(hitS gin gout left inn x).1, (hitS gin gout left inn x).2.1, tried⟩ ln) W)
      { tmps := #[g0, g1, .pointer (some ⟨B2, 0, none⟩), .pointer (some ⟨S3, 0, none⟩), g4, g5, g6, g7, .pointer (some ⟨K8, 0, none⟩), g9, .pointer (some ⟨K10, 0, none⟩), .pointer (some ⟨K11, 0, none⟩), .pointer (some ⟨K12, 0, none⟩), .pointer (some ⟨K13, 0, none⟩), .int .i64 x, g15, g16, g17, g18, g19, g20, g21, g22, g23, g24, g25, g26, g27, g28, g29, g30, g31, g32, g33, g34, g35, g36, g37, g38, g39, g40, g41, g42, g43, g44, g45, g46, g47, g48, g49, g50, g51, g52, g53, g54, g55, g56, g57, g58, g59, g60, g61, g62, g63, g64, g65, g66, g67, g68, g69, g70, g71, g72, g73, g74, g75, g76, g77, g78, g79, g80, g81, g82, g83, g84, g85, g86, g87, g88, g89, g90, g91, g92, g93, g94, g95, g96, g97, g98, g99, g100, g101, g102, g103, g104, g105, g106, g107, g108, g109, g110, g111, g112, g113, g114, g115, g116, g117, g118, g119, g120], defers := [] } w := by
  simp only [Try.f77, Option.getD_some, codeRnd, Option.some.injEq] at hc
  subst hc
  obtain ⟨h1, hh1⟩ : ∃ v, (hitS gin gout left inn x).1 = v := ⟨_, rfl⟩
  obtain ⟨h2', hh2⟩ : ∃ v, (hitS gin gout left inn x).2.1 = v := ⟨_, rfl⟩
  obtain ⟨ef, hef⟩ : ∃ v, (hitS gin gout left inn x).2.2 = v := ⟨_, rfl⟩
  have HHIT := Lib.hid (fun W => mean_hit start gin gout left inn (.slice ba bn bc) x W hx hl ⟨ba, bn, bc, rfl⟩)
  have HV := Lib.hid (show hitV (hitS gin gout left inn x) = .tuple #[.agg #[.int .i64 h1, .bool h2'], .int .i64 ef] by unfold hitV; rw [hh1, hh2, hef])
  rw [HV.out] at HHIT
  rw [hh1, hh2, hef]
  clear hh1 hh2 hef HV hx hl
  obtain ⟨Q, hQ⟩ : ∃ Q : World → Prop, Q = RndG base bo nx w (rndO ef sl dart tried lo) (rndL ef ⟨h1, h2', tried⟩ ln) := ⟨_, rfl⟩
  rw [← hQ]
  have HQ := Lib.hid hQ
  have H2 := Lib.hid h2
  have HK := Lib.hid hk
  have HS := Lib.hid hS
  have HO := Lib.hid hO
  have H8 := Lib.hid h8
  have H10 := Lib.hid h10
  have H11 := Lib.hid h11
  have H12 := Lib.hid h12
  have H13 := Lib.hid h13
  have HLO := Lib.hid hlo
  have HLN := Lib.hid hln
  have HNE := Lib.hid hne
  have HBS := Lib.hid (show bo < base ∧ nx < base from ⟨hbo, hnx⟩)
  clear hQ h2 hk hS hO h8 h10 h11 h12 h13 hlo hln hne hbo hnx
  gi_upto_region 17 with fail
  have l2 := H2.out.lt
  have lk := HK.out.lt
  have l12 := H12.out.lt
  have m0 : ∀ y : Lat (fun b _ => w.heap.size ≤ b) w, y.world.cell? ⟨B2, 0, none⟩ = some (.pointer (some ⟨kb, 0, none⟩)) := fun y => (H2.out.ext (Lat.ext1 y)).cell 0 rfl
  have q0 : ∀ y : Lat (fun b _ => w.heap.size ≤ b) w, y.world.cell? ⟨kb, 0, none⟩ = some (.int .i64 start) := fun y => (HK.out.ext (Lat.ext1 y)).cell 0 rfl
  have q1 : ∀ y : Lat (fun b _ => w.heap.size ≤ b) w, y.world.cell? ⟨kb, 1, none⟩ = some (.int .i64 gin) := fun y => (HK.out.ext (Lat.ext1 y)).cell 1 rfl
  have q2 : ∀ y : Lat (fun b _ => w.heap.size ≤ b) w, y.world.cell? ⟨kb, 2, none⟩ = some (.int .i64 gout) := fun y => (HK.out.ext (Lat.ext1 y)).cell 2 rfl
  have q3 : ∀ y : Lat (fun b _ => w.heap.size ≤ b) w, y.world.cell? ⟨kb, 3, none⟩ = some (.slice ba bn bc) := fun y => (HK.out.ext (Lat.ext1 y)).cell 3 rfl
  have q4 : ∀ y : Lat (fun b _ => w.heap.size ≤ b) w, y.world.cell? ⟨kb, 4, none⟩ = some (.map (some bf)) := fun y => (HK.out.ext (Lat.ext1 y)).cell 4 rfl
  have n0 : ∀ y : Lat (fun b _ => w.heap.size ≤ b) w, y.world.cell? ⟨K12, 0, none⟩ = some (.int .i64 left) := fun y => (H12.out.ext (Lat.ext1 y)).cell 0 rfl
  have n1 : ∀ y : Lat (fun b _ => w.heap.size ≤ b) w, y.world.cell? ⟨K12, 1, none⟩ = some (.bool inn) := fun y => (H12.out.ext (Lat.ext1 y)).cell 1 rfl
  have n2 : ∀ y : Lat (fun b _ => w.heap.size ≤ b) w, y.world.cell? ⟨K12, 2, none⟩ = some (.int .i64 tr0) := fun y => (H12.out.ext (Lat.ext1 y)).cell 2 rfl
  refine wpIn_calls_r lp (by kernel_rfl) (by kernel_rfl) [.no, .no, .no, .no, .no, .no, .no, .of (fun v => v = .tuple #[.agg #[.int .i64 h1, .bool h2'], .int .i64 ef]) (.tuple #[.agg #[.int .i64 h1, .bool h2'], .int .i64 ef]) rfl, .no, .no, .no, .ptr, .any] w.heap.size (fun (c : (Nat × World)) => c.2.heap.size)
    (fun (c : (Nat × World)) L u => [bif L 7 then Res.snap c else Res.none, bif L 7 then Res.pure (Ext w c.2 ∧ w.heap.size ≤ c.1 ∧ Nop (u 7) c.1 c.2) else Res.none, bif L 11 then Res.blk (ptrAt (u 11)) (bif L 12 then #[.int .i64 h1, .bool h2'] else #[.int .i64 0, .bool false]) else Res.none])
    (0, w) (by kernel_rfl) (Nat.le_of_ble_eq_true rfl) (fun c L L' u hh => by simp only [hh 7 rfl, hh 11 rfl, hh 12 rfl]) (by simp) (fun _ => Frm.nones _ 3 w) ?_
  intro T hT hne u hu
  have u7 : u 7 = .tuple #[.agg #[.int .i64 h1, .bool h2'], .int .i64 ef] := hu 7 rfl
  obtain ⟨k15, u11⟩ : ∃ k, u 11 = .pointer (some ⟨k, 0, none⟩) := hu 11 rfl
  clear hu
  refine lx_next 7 (by rfl) (by decide) ?_
  dsimp only [List.take, List.drop]
  repeat (go_big_quiet_step (fail))
  refine wpQuiet_nil ?_
  refine lx_loud (by rfl) (by kernel_rfl) ?_ (fun K hK => ?_)
  · intro L w3 hL hd hcl hC hs
    obtain ⟨y, rfl⟩ := hC
    obtain ⟨c, hmc, hs⟩ := hs
    have hzs := y.size
    simp only [hL, cond_false] at hs
    have hX : Ext w y.world := Chg.to_ext (Ext.refl w) y.chg (by rintro i ⟨_, h⟩; exact h)
    have hmc2 : c.2.heap.size ≤ y.world.heap.size := hmc
    have HS7 := Lib.hid hs
    clear hs
    go_wp2_with fail
    refine (HHIT.out _).mono ?_
    rintro e w' ⟨rfl, hx⟩
    have hsz' := hx.size
    have HV : Hid (Nop (.tuple #[.agg #[.int .i64 h1, .bool h2'], .int .i64 ef]) y.world.heap.size w') := Lib.hid .mk
    go_wp2
    exact lik_call y (Nat.le_refl _) rfl HS7.out 0 1 (by decide) rfl rfl hx (y.world.heap.size, w') (by show w'.heap.size ≤ w'.heap.size; omega) (φ := Ext w w' ∧ w.heap.size ≤ y.world.heap.size ∧ Nop _ y.world.heap.size w') ⟨hX.trans hx, hzs, HV.out⟩ (by first | (simp [upd, updv, hL]; done) | (simp [upd, updv, hL]; rfl))
  rw [u7]
  go_simp
  with_reducible refine hK _ ?_
  clear hK K
  refine lx_next 3 (by rfl) (by decide) ?_
  dsimp only [List.take, List.drop]
  repeat (go_big_quiet_step (fail))
  refine wpQuiet_nil ?_
  refine lx_loud (by rfl) (by kernel_rfl) ?_ (fun K hK => ?_)
  · intro L w3 hL hd hcl hC hs
    obtain ⟨y, rfl⟩ := hC
    obtain ⟨c, hmc, hs⟩ := hs
    have hzs := y.size
    have h12 := hcl.off hL 40 12 (by kernel_rfl)
    simp only [hL, h12, cond_false] at hs
    go_wp2
    exact lik_set y (Nat.le_refl _) ⟨_, rfl⟩ hs 2 (r' := Res.blk y.world.heap.size #[.int .i64 0, .bool false]) rfl (((Ext.refl y.world).alloc _).chg _) (Blk.new _ _ _) (fun k hk => .inr (by rw [show k = y.world.heap.size from hk]; simp)) c hmc (by first | (simp [upd, updv, hL, h12]; done) | (simp [upd, updv, hL, h12]; rfl))
  rw [u11]
  go_simp
  with_reducible refine hK _ ?_
  clear hK K
  refine lx_loud (by rfl) (by kernel_rfl) ?_ (fun K hK => ?_)
  · intro L w3 hL hd hcl hC hs
    obtain ⟨y, rfl⟩ := hC
    obtain ⟨c, hmc, hs⟩ := hs
    have hzs := y.size
    have h11 := hd 11 (by kernel_rfl)
    simp only [hL, h11, cond_true, cond_false] at hs
    rw [u11] at hs
    have hb : Blk y.world k15 #[.int .i64 0, .bool false] := hs.get 2 rfl
    have hlt := hb.lt
    have q0 := hb.cell 0 (v := .int .i64 0) rfl
    have f0 := hb.frozen 0
    have q1 := hb.cell 1 (v := .bool false) rfl
    have f1 := hb.frozen 1
    go_wp2
    exact lik_set y (Nat.le_refl _) trivial hs 2 rfl (two_chg (fun k => k = k15) _ rfl _ _ ) (r' := Res.blk k15 #[.int .i64 h1, .bool h2']) (two_set hb _ _ ) (fun _ hk => .inl hk) c hmc (by first | (simp [upd, updv, hL, h11, u11, ptrAt]; done) | (simp [upd, updv, hL, h11, u11, ptrAt]; rfl))
  go_simp
  with_reducible refine hK _ ?_
  clear hK K
  refine lx_next 1 (by rfl) (by decide) ?_
  dsimp only [List.take, List.drop]
  repeat (go_big_quiet_step (fail))
  refine wpQuiet_nil ?_
  refine lx_nil ?_
  intro y hs
  obtain ⟨c, hmc, hs⟩ := hs
  rw [u7, u11] at hs
  have hX : Ext w y.world := Chg.to_ext (Ext.refl w) y.chg (by rintro i ⟨_, h⟩; exact h)
  have hmc2 : c.2.heap.size ≤ y.world.heap.size := hmc
  have hp7 : Ext w c.2 ∧ w.heap.size ≤ c.1 ∧ Nop (.tuple #[.agg #[.int .i64 h1, .bool h2'], .int .i64 ef]) c.1 c.2 := hs.get 1 rfl
  have hr7 := hp7.2.2.chg (snap_chg (hs.get 0 rfl) hp7.1 hX (by omega)) (fun k hk => hk.2)
  have hsl7 := hp7.2.1
  have hbk15 : Blk y.world k15 #[.int .i64 h1, .bool h2'] := hs.get 2 rfl
  have hlk15 := hs.lt 2 rfl k15 rfl
  generalize c.1 = sz7 at *
  clear hs hp7 hmc hmc2 hT hne u7 u11
  generalize y.world = w1 at *
  clear m0 q0 q1 q2 q3 q4 n0 n1 n2 l2 lk l12
  have HX := Lib.hid hX
  have HLO1 := Lib.hid (HLO.out.ext hX)
  have HLN1 := Lib.hid (HLN.out.ext hX)
  have hkd : k15 ≠ K13 := by have := H13.out.lt; omega
  have cx0 := (H8.out.ext hX).cell 0 (v := .func (.func 94) #[] #[.pointer (some ⟨O7, 0, none⟩)]) rfl
  have cxl := (H8.out.ext hX).lt
  have sx0 := (HS.out.ext hX).cell 0 (v := .int .i64 sl) rfl
  have sx1 := (HS.out.ext hX).cell 1 (v := .bool si) rfl
  have sxl := (HS.out.ext hX).lt
  have dx0 := (H10.out.ext hX).cell 0 (v := .int .i64 dart) rfl
  have dxl := (H10.out.ext hX).lt
  have tx0 := (H13.out.ext hX).cell 0 (v := .int .i64 tried) rfl
  have txl := (H13.out.ext hX).lt
  have xx0 := (H11.out.ext hX).cell 0 (v := .map (some nx)) rfl
  have xxl := (H11.out.ext hX).lt
  have zx0 := hbk15.cell 0 (v := .int .i64 h1) rfl
  have zx1 := hbk15.cell 1 (v := .bool h2') rfl
  have zxl := hbk15.lt
  have HOO := Lib.hid ((HO.out.ext hX).cell 0 (v := .map (some bo)) rfl)
  clear hX hbk15 hlk15
  cases e1 : ef == 1
  case true =>
    obtain rfl : ef = 1 := by simpa using e1
    have hw : wrap64 (dart + 1) = dart + 1 := wrap64_in' ⟨by omega, by omega⟩
    have HCA := Lib.hid (mean_from1 ⟨sl, true⟩ (dart + 1) tried O7 bo lo w1 HOO.out HLO1.out)
    unfold Gl.agg at HCA
    simp only at HCA
    gi_wp2_with fail
    refine ⟨trivial, CallsIn.inRound lp ((callsIn_wide.2 HCA.out).mono ?_)⟩
    rintro e w2 ⟨rfl, hm, hc⟩
    have HF : Hid (Q w2) := Lib.hid (by rw [HQ.out]; exact rnd_fin ((HX.out.chg _).trans (hc.mono fun k _ h => .inl h)) HLO.out HLN.out HBS.out hm (HLN1.out.chg hc (fun h => HNE.out h.symm)))
    clear hm hc
    gi_wp2
    exact HF.out
  cases e2 : ef == 2
  case true =>
    obtain rfl : ef = 2 := by simpa using e2
    have HCB := Lib.hid (mean_from1 ⟨0, false⟩ (dart + 1) tried O7 bo lo w1 HOO.out HLO1.out)
    unfold Gl.agg at HCB
    simp only at HCB
    have hw2 : wrap64 (dart + 1) = dart + 1 := wrap64_in' ⟨by omega, by omega⟩
    gi_wp2_with fail
    refine ⟨trivial, CallsIn.inRound lp ((callsIn_wide.2 HCB.out).mono ?_)⟩
    rintro e w2 ⟨rfl, hm, hc⟩
    have HF : Hid (Q w2) := Lib.hid (by rw [HQ.out]; exact rnd_fin ((HX.out.chg _).trans (hc.mono fun k _ h => .inl h)) HLO.out HLN.out HBS.out hm (HLN1.out.chg hc (fun h => HNE.out h.symm)))
    clear hm hc
    gi_wp2
    exact HF.out
  have n1 : ef ≠ 1 := by simpa using e1
  have n2 : ef ≠ 2 := by simpa using e2
  have HN12 := Lib.hid (And.intro n1 n2)
  clear n1 n2
  gi_wp2_with (gi_at_mapUpdate; refine wpIn_putL keyL_now under_level rfl _ _ _ rfl nx ln ⟨h1, h2', tried⟩ .yes rfl HLN1.out trivial rfl rfl ?_)
  intro w2 hm hc
  have HF : Hid (Q w2) := Lib.hid (by
    rw [HQ.out, show rndO ef sl dart tried lo = lo by unfold rndO; rw [if_neg HN12.out.1, if_neg HN12.out.2], show rndL ef ⟨h1, h2', tried⟩ ln = putL ln ⟨h1, h2', tried⟩ .yes by unfold rndL; rw [if_neg HN12.out.1, if_neg HN12.out.2]]
    exact rnd_fin ((HX.out.chg _).trans (hc.mono fun k _ h => .inr h)) HLO.out HLN.out HBS.out (HLO1.out.chg hc HNE.out) hm)
  clear hm hc
  gi_wp2
  exact HF.out
end Go.Proofs.Ytmopadnkjlodnaa
