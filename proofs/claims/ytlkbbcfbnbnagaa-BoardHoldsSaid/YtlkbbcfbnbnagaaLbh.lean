/-
  The statement BoardHolds: from its box on.
-/
import Derived.Test.YtlkbbcfbnbnagaaLbb
import Derived.Test.YtlkbbcfbnbnagaaLbf
import Derived.Test.YtlkbbcfbnbnagaaSto
import Derived.Test.YtlkbbcfbnbnagaaArr
import Derived.Deep.CutBlock
namespace Go.Proofs.Ytlkbbcfbnbnagaa
open Go.RowKit Go.BigFrame
attribute [local go_sem] Later.cell Later.frozen Lat.cell Lat.frozen
set_option maxRecDepth 100000 in
set_option maxHeartbeats 8000000 in
theorem hold_tail (c : Code) (hc : codeSeq 14 (Try.f4.body.getD .skip) = some c) (b : Brd) (a1 a2 a3 la : Option Addr) (a4 a5 a6 lc k7 k9 : Nat) (px py S0 S1 : Int) (w wc : World)
    (HX : Hid (Ext w wc)) (HE : Hid (errB b = 0)) (HSM : Hid (SmallB b)) (hpx : -1250 ≤ px ∧ px ≤ 1250) (hpy : -1250 ≤ py ∧ py ≤ 1250) (hS0 : 0 ≤ S0 ∧ S0 ≤ 29) (hS1 : 0 ≤ S1 ∧ S1 ≤ 29)
    (HB : Hid (BrdAt wc ⟨a1, a2, a3, a4, a5, a6⟩ b)) (HN : Hid (BrdNil ⟨a1, a2, a3, a4, a5, a6⟩ b)) (HL : Hid (CellsAt wc .i64 la (setL ((ptsL ⟨px, px + S0, py, py + S1⟩).map (bedB b)))))
    (HB7 : Hid (Blk wc k7 #[.int .i64 b.eye, .int .i64 b.bull, .slice a1 b.rings.length a4, .slice a2 b.lines.length a5, .slice a3 b.nums.length a6, .int .i64 b.wire])) (HB9 : Hid (Blk wc k9 #[.int .i64 px, .int .i64 (px + S0), .int .i64 py, .int .i64 (py + S1)]))
    {s0 s1 s2 s3 s4 s5 s6 s8 s11 s12 s13 s14 s15 s17 s18 s19 s20 s21 s22 s23 s24 s25 s26 s27 s28 s29 s30 s31 s32 s33 s34 s35 s36 s37 s38 s39 s40 s41 s42 s43 s44 s45 s46 s47 s48 s49 s50 s51 s52 s53 s54 s55 s56 s57 s58 s59 s60 s61 s62 s63 s64 s65 s66 s67 s68 s69 s70 s71 s72 s73 s74 s75 s76 s77 s78 s79 s80 s81 s82 s83 s84 s85 s86 s87 s88 s89 s90 s91 s92 s93 s94 s95 s96 s97 s98 s99 s100 s101 s102 s103 s104 s105 s106 s107 s108 s109 s110 s111 s112 s113 s114 s115 s116 s117 s118 s119 s120 s121 s122 s123 s124 s125 s126 s127 s128 s129 s130 s131 s132 s133 s134 s135 s136 s137 s138 s139 s140 s141 s142 s143 s144 s145 s146 s147 s148 s149 s150 s151 s152 s153 s154 s155 s156 s157 s158 s159 s160 s161 s162 s163 s164 s165 s166 s167 s168 s169 s170 s171 s172 s173 s174 s175 s176 s177 s178 s179 s180 s181 s182 s183 s184 s185 s186 s187 s188 s189 s190 s191 s192 s193 s194 s195 s196 s197 s198 s199 s200 s201 s202 s203 s204 s205 s206 s207 s208 s209 s210 s211 s212 s213 s214 s215 s216 s217 s218 s219 s220 s221 s222 s223 s224 s225 s226 s227 s228 s229 s230 s231 s232 s233 s234 s235 s236 s237 s238 s239 s240 s241 s242 s243 s244 s245 s246 s247 s248 s249 : Value} :
    c.wp Try.prog (bodyPost Try.prog Try.f4 fun e w' => e = .returned (.bool true) ∧ Ext w w')
      { tmps := #[s0, s1, s2, s3, s4, s5, s6, .pointer (some ⟨k7, 0, none⟩), s8, .pointer (some ⟨k9, 0, none⟩), .slice la (setL ((ptsL ⟨px, px + S0, py, py + S1⟩).map (bedB b))).length lc, s11, s12, s13, s14, s15, .bool true, s17, s18, s19, s20, s21, s22, s23, s24, s25, s26, s27, s28, s29, s30, s31, s32, s33, s34, s35, s36, s37, s38, s39, s40, s41, s42, s43, s44, s45, s46, s47, s48, s49, s50, s51, s52, s53, s54, s55, s56, s57, s58, s59, s60, s61, s62, s63, s64, s65, s66, s67, s68, s69, s70, s71, s72, s73, s74, s75, s76, s77, s78, s79, s80, s81, s82, s83, s84, s85, s86, s87, s88, s89, s90, s91, s92, s93, s94, s95, s96, s97, s98, s99, s100, s101, s102, s103, s104, s105, s106, s107, s108, s109, s110, s111, s112, s113, s114, s115, s116, s117, s118, s119, s120, s121, s122, s123, s124, s125, s126, s127, s128, s129, s130, s131, s132, s133, s134, s135, s136, s137, s138, s139, s140, s141, s142, s143, s144, s145, s146, s147, s148, s149, s150, s151, s152, s153, s154, s155, s156, s157, s158, s159, s160, s161, s162, s163, s164, s165, s166, s167, s168, s169, s170, s171, s172, s173, s174, s175, s176, s177, s178, s179, s180, s181, s182, s183, s184, s185, s186, s187, s188, s189, s190, s191, s192, s193, s194, s195, s196, s197, s198, s199, s200, s201, s202, s203, s204, s205, s206, s207, s208, s209, s210, s211, s212, s213, s214, s215, s216, s217, s218, s219, s220, s221, s222, s223, s224, s225, s226, s227, s228, s229, s230, s231, s232, s233, s234, s235, s236, s237, s238, s239, s240, s241, s242, s243, s244, s245, s246, s247, s248, s249], defers := [] } wc := by
  simp only [Try.f4, Option.getD_some, codeSeq, ↓reduceIte, Nat.reduceEqDiff, Option.some.injEq] at hc
  subst hc
  obtain ⟨p0, p1⟩ := hpx
  obtain ⟨p2, p3⟩ := hpy
  obtain ⟨q0, q1⟩ := hS0
  obtain ⟨q2, q3⟩ := hS1
  obtain ⟨ls, hls⟩ : ∃ l, setL ((ptsL ⟨px, px + S0, py, py + S1⟩).map (bedB b)) = l := ⟨_, rfl⟩
  have HLS := Lib.hid hls
  rw [hls] at HL ⊢
  clear hls
  have HB9l := HB9.out.lt
  have HB7l := HB7.out.lt
  have hb9 := HB9.out
  have x0 := hb9.cell 0 (v := .int .i64 px) rfl
  have x1 := hb9.cell 1 (v := .int .i64 (px + S0)) rfl
  have x2 := hb9.cell 2 (v := .int .i64 py) rfl
  have x3 := hb9.cell 3 (v := .int .i64 (py + S1)) rfl
  clear hb9
  dsimp only
  by_cases h0 : S0 = 0
  case pos =>
    subst h0
    have e0 : px + 0 = px := by omega
    rw [e0] at x1
    go_wp2_with fail
    refine (law_known _).mono ?_
    rintro e w19 ⟨rfl, hx19⟩
    have HXE := Lib.hid (HX.out.trans hx19)
    clear hx19
    go_wp2
    go_ret
    exact ⟨rfl, HXE.out⟩
  have hne : ¬ (px = px + S0) := by omega
  have hk9n : ¬ (wc.heap.size ≤ k9) := by omega
  go_upto_region 16 with fail
  refine wp_region_calls (by kernel_rfl) [.no, .no, .ptr, .ptr, .any, .any] wc.heap.size (fun (c : Unit) => 0)
    (fun (c : Unit) L u => [bif L 2 then Res.blk (ptrAt (u 2)) (bif L 4 then #[.int .i64 px, .int .i64 (px + S0), .int .i64 py, .int .i64 (py + S1)] else #[.int .i64 0, .int .i64 0, .int .i64 0, .int .i64 0]) else Res.none, bif L 3 then Res.blk (ptrAt (u 3)) (bif L 5 then #[.int .i64 px, .int .i64 (px + S0), .int .i64 py, .int .i64 (py + S1)] else #[.int .i64 0, .int .i64 0, .int .i64 0, .int .i64 0]) else Res.none])
    () (by kernel_rfl) (Nat.le_of_ble_eq_true rfl) (fun c L L' u hh => by simp only [hh 2 rfl, hh 3 rfl, hh 4 rfl, hh 5 rfl]) (by simp) (fun _ => Frm.nones _ 2 wc) ?_
  intro T hT hne u hu
  obtain ⟨k18, u2⟩ : ∃ k, u 2 = .pointer (some ⟨k, 0, none⟩) := hu 2 rfl
  obtain ⟨k19, u3⟩ : ∃ k, u 3 = .pointer (some ⟨k, 0, none⟩) := hu 3 rfl
  clear hu
  refine lx_next 2 (by rfl) (by decide) ?_
  dsimp only [List.take, List.drop]
  repeat (go_big_quiet_step (fail))
  refine wpQuiet_nil ?_
  refine lx_loud (by rfl) (by kernel_rfl) ?_ (fun K hK => ?_)
  · intro L w3 hL hd hcl hC hs
    obtain ⟨y, rfl⟩ := hC
    obtain ⟨c, hmc, hs⟩ := hs
    have hzs := y.size
    have h4 := hcl.off hL 40 4 (by kernel_rfl)
    simp only [hL, h4, cond_false] at hs
    go_wp2
    exact lik_set y (Nat.le_refl _) ⟨_, rfl⟩ hs 0 (r' := Res.blk y.world.heap.size #[.int .i64 0, .int .i64 0, .int .i64 0, .int .i64 0]) rfl (((Ext.refl y.world).alloc _).chg _) (Blk.new _ _ _) (fun k hk => .inr (by rw [show k = y.world.heap.size from hk]; simp)) c hmc (by first | (simp [upd, updv, hL, h4]; done) | (simp [upd, updv, hL, h4]; rfl))
  rw [u2]
  go_simp
  with_reducible refine hK _ ?_
  clear hK K
  refine lx_loud (by rfl) (by kernel_rfl) ?_ (fun K hK => ?_)
  · intro L w3 hL hd hcl hC hs
    obtain ⟨y, rfl⟩ := hC
    obtain ⟨c, hmc, hs⟩ := hs
    have hzs := y.size
    have h5 := hcl.off hL 40 5 (by kernel_rfl)
    simp only [hL, h5, cond_false] at hs
    go_wp2
    exact lik_set y (Nat.le_refl _) ⟨_, rfl⟩ hs 1 (r' := Res.blk y.world.heap.size #[.int .i64 0, .int .i64 0, .int .i64 0, .int .i64 0]) rfl (((Ext.refl y.world).alloc _).chg _) (Blk.new _ _ _) (fun k hk => .inr (by rw [show k = y.world.heap.size from hk]; simp)) c hmc (by first | (simp [upd, updv, hL, h5]; done) | (simp [upd, updv, hL, h5]; rfl))
  rw [u3]
  go_simp
  with_reducible refine hK _ ?_
  clear hK K
  refine lx_loud (by rfl) (by kernel_rfl) ?_ (fun K hK => ?_)
  · intro L w3 hL hd hcl hC hs
    obtain ⟨y, rfl⟩ := hC
    obtain ⟨c, hmc, hs⟩ := hs
    have hzs := y.size
    have h2 := hd 2 (by kernel_rfl)
    simp only [hL, h2, cond_true, cond_false] at hs
    rw [u2] at hs
    have hb : Blk y.world k18 #[.int .i64 0, .int .i64 0, .int .i64 0, .int .i64 0] := hs.get 0 rfl
    have hlt := hb.lt
    have q0 := hb.cell 0 (v := .int .i64 0) rfl
    have f0 := hb.frozen 0
    have q1 := hb.cell 1 (v := .int .i64 0) rfl
    have f1 := hb.frozen 1
    have q2 := hb.cell 2 (v := .int .i64 0) rfl
    have f2 := hb.frozen 2
    have q3 := hb.cell 3 (v := .int .i64 0) rfl
    have f3 := hb.frozen 3
    go_wp2
    exact lik_set y (Nat.le_refl _) trivial hs 0 rfl (four_chg (fun k => k = k18) _ rfl _ _ _ _ ) (r' := Res.blk k18 #[.int .i64 px, .int .i64 (px + S0), .int .i64 py, .int .i64 (py + S1)]) (four_set hb _ _ _ _ ) (fun _ hk => .inl hk) c hmc (by first | (simp [upd, updv, hL, h2, u2, ptrAt]; done) | (simp [upd, updv, hL, h2, u2, ptrAt]; rfl))
  go_simp
  with_reducible refine hK _ ?_
  clear hK K
  refine lx_loud (by rfl) (by kernel_rfl) ?_ (fun K hK => ?_)
  · intro L w3 hL hd hcl hC hs
    obtain ⟨y, rfl⟩ := hC
    obtain ⟨c, hmc, hs⟩ := hs
    have hzs := y.size
    have h3 := hd 3 (by kernel_rfl)
    simp only [hL, h3, cond_true, cond_false] at hs
    rw [u3] at hs
    have hb : Blk y.world k19 #[.int .i64 0, .int .i64 0, .int .i64 0, .int .i64 0] := hs.get 1 rfl
    have hlt := hb.lt
    have q0 := hb.cell 0 (v := .int .i64 0) rfl
    have f0 := hb.frozen 0
    have q1 := hb.cell 1 (v := .int .i64 0) rfl
    have f1 := hb.frozen 1
    have q2 := hb.cell 2 (v := .int .i64 0) rfl
    have f2 := hb.frozen 2
    have q3 := hb.cell 3 (v := .int .i64 0) rfl
    have f3 := hb.frozen 3
    go_wp2
    exact lik_set y (Nat.le_refl _) trivial hs 1 rfl (four_chg (fun k => k = k19) _ rfl _ _ _ _ ) (r' := Res.blk k19 #[.int .i64 px, .int .i64 (px + S0), .int .i64 py, .int .i64 (py + S1)]) (four_set hb _ _ _ _ ) (fun _ hk => .inl hk) c hmc (by first | (simp [upd, updv, hL, h3, u3, ptrAt]; done) | (simp [upd, updv, hL, h3, u3, ptrAt]; rfl))
  go_simp
  with_reducible refine hK _ ?_
  clear hK K
  refine lx_nil ?_
  intro y hs
  obtain ⟨c, hmc, hs⟩ := hs
  rw [u2, u3] at hs
  have hX : Ext wc y.world := Chg.to_ext (Ext.refl wc) y.chg (by rintro i ⟨_, h⟩; exact h)
  have hmc2 : 0 ≤ y.world.heap.size := hmc
  have hbk18 : Blk y.world k18 #[.int .i64 px, .int .i64 (px + S0), .int .i64 py, .int .i64 (py + S1)] := hs.get 0 rfl
  have hlk18 := hs.lt 0 rfl k18 rfl
  have hbk19 : Blk y.world k19 #[.int .i64 px, .int .i64 (px + S0), .int .i64 py, .int .i64 (py + S1)] := hs.get 1 rfl
  have hlk19 := hs.lt 1 rfl k19 rfl
  have hne_k18_k19 : k18 ≠ k19 := fun e => hs.parts 0 1 _ _ rfl rfl (by decide) k18 rfl e
  clear hs  hmc hmc2 hT hne u2 u3
  generalize y.world = w1 at *
  have HXc := Lib.hid hX
  have HK18 := Lib.hid hbk18
  have HK19 := Lib.hid hbk19
  have hw18 := hlk18.1
  have hw19 := hlk19.1
  have HNE := Lib.hid hne_k18_k19
  clear x0 x1 x2 x3 hX hbk18 hbk19 hlk18 hlk19 hk9n hne_k18_k19
  have HB91 := Lib.hid (HB9.out.ext HXc.out)
  have x0 := HB91.out.cell 0 (v := .int .i64 px) rfl
  have x1 := HB91.out.cell 1 (v := .int .i64 (px + S0)) rfl
  have x2 := HB91.out.cell 2 (v := .int .i64 py) rfl
  have x3 := HB91.out.cell 3 (v := .int .i64 (py + S1)) rfl
  have xl := HB91.out.lt
  have y0 := HK18.out.cell 0 (v := .int .i64 px) rfl
  have y1 := HK18.out.cell 1 (v := .int .i64 (px + S0)) rfl
  have y2 := HK18.out.cell 2 (v := .int .i64 py) rfl
  have y3 := HK18.out.cell 3 (v := .int .i64 (py + S1)) rfl
  have yl := HK18.out.lt
  have z0 := HK19.out.cell 0 (v := .int .i64 px) rfl
  have z1 := HK19.out.cell 1 (v := .int .i64 (px + S0)) rfl
  have z2 := HK19.out.cell 2 (v := .int .i64 py) rfl
  have z3 := HK19.out.cell 3 (v := .int .i64 (py + S1)) rfl
  have zl := HK19.out.lt
  have y1f := HK18.out.frozen 1
  have z0f := HK19.out.frozen 0
  go_upto_region 19 with fail
  obtain ⟨M, hM⟩ : ∃ M, (px + (px + S0)) / 2 = M := ⟨_, rfl⟩
  rw [hM]
  have hM0 : px ≤ M := by omega
  have hM1 : M < px + S0 := by omega
  clear hM x0 x1 x2 x3 xl y0 y1 y2 y3 yl z0 z1 z2 z3 zl y1f z0f
  obtain ⟨W, hW⟩ : ∃ y, y = (w1.setCell ⟨k18, 1, none⟩ (.int .i64 M)).setCell ⟨k19, 0, none⟩ (.int .i64 (M + 1)) := ⟨_, rfl⟩
  rw [← hW]
  have HK18W : Hid (Blk W k18 #[.int .i64 px, .int .i64 M, .int .i64 py, .int .i64 (py + S1)]) := Lib.hid (by rw [hW]; exact (HK18.out.set 1 (.int .i64 M)).other (a := ⟨k19, 0, none⟩) HNE.out (.int .i64 (M + 1)))
  have HK19W : Hid (Blk W k19 #[.int .i64 (M + 1), .int .i64 (px + S0), .int .i64 py, .int .i64 (py + S1)]) := Lib.hid (by rw [hW]; exact (HK19.out.other (a := ⟨k18, 1, none⟩) (fun e => HNE.out e.symm) (.int .i64 M)).set 0 (.int .i64 (M + 1)))
  have HXW : Hid (Ext wc W) := Lib.hid (by rw [hW]; exact (HXc.out.setCell (p := ⟨k18, 1, none⟩) hw18 _).setCell (p := ⟨k19, 0, none⟩) hw19 _)
  have HB7W := Lib.hid (HB7.out.ext HXW.out)
  have HBW := Lib.hid (HB.out.ext HXW.out)
  have HLW := Lib.hid (HL.out.ext HXW.out)
  have HXw := Lib.hid (HX.out.trans HXW.out)
  have hbo := box_ok2 (x0 := px) (x1 := M) (y0 := py) (y1 := py + S1) (by omega) (by omega) (by omega) (by omega) (by omega) (by omega) (by omega) (by omega)
  have hbt := box_ok2 (x0 := M + 1) (x1 := px + S0) (y0 := py) (y1 := py + S1) (by omega) (by omega) (by omega) (by omega) (by omega) (by omega) (by omega) (by omega)
  have HBE1 := Lib.hid (fun v W h => calls_beds v b ⟨px, M, py, py + S1⟩ W h HSM.out HE.out hbo.1 hbo.2)
  have HBE2 := Lib.hid (fun v W h => calls_beds v b ⟨M + 1, px + S0, py, py + S1⟩ W h HSM.out HE.out hbt.1 hbt.2)
  have HHM := Lib.hid (half_marks b px M (px + S0) py (py + S1) ⟨hM0, hM1⟩)
  rw [HLS.out] at HHM
  obtain ⟨l1, hl1⟩ : ∃ l, setL ((ptsL ⟨px, M, py, py + S1⟩).map (bedB b)) = l := ⟨_, rfl⟩
  obtain ⟨l2, hl2⟩ : ∃ l, setL ((ptsL ⟨M + 1, px + S0, py, py + S1⟩).map (bedB b)) = l := ⟨_, rfl⟩
  have H1R := Lib.hid (fun y (hy : y ∈ l1) => ((setL_mem _ y).1 (hl1 ▸ hy)).1)
  have H2R := Lib.hid (fun y (hy : y ∈ l2) => ((setL_mem _ y).1 (hl2 ▸ hy)).1)
  have H1L := Lib.hid (show l1.length ≤ 500 by rw [← hl1, setL_cnt]; exact cntB_small _ _)
  have H2L := Lib.hid (show l2.length ≤ 500 by rw [← hl2, setL_cnt]; exact cntB_small _ _)
  rw [hl1] at HBE1 HHM
  rw [hl2] at HBE2 HHM
  clear hl1 hl2 hbo hbt hW HXc HK18 HK19 HNE HB91 hM0 hM1
  have m0 : ∀ y : Lat NoX W, y.world.cell? ⟨k7, 0, none⟩ = some (.int .i64 b.eye) := fun y => (HB7W.out.ext (Lat.ext0 y)).cell 0 rfl
  have m1 : ∀ y : Lat NoX W, y.world.cell? ⟨k7, 1, none⟩ = some (.int .i64 b.bull) := fun y => (HB7W.out.ext (Lat.ext0 y)).cell 1 rfl
  have m2 : ∀ y : Lat NoX W, y.world.cell? ⟨k7, 2, none⟩ = some (.slice a1 b.rings.length a4) := fun y => (HB7W.out.ext (Lat.ext0 y)).cell 2 rfl
  have m3 : ∀ y : Lat NoX W, y.world.cell? ⟨k7, 3, none⟩ = some (.slice a2 b.lines.length a5) := fun y => (HB7W.out.ext (Lat.ext0 y)).cell 3 rfl
  have m4 : ∀ y : Lat NoX W, y.world.cell? ⟨k7, 4, none⟩ = some (.slice a3 b.nums.length a6) := fun y => (HB7W.out.ext (Lat.ext0 y)).cell 4 rfl
  have m5 : ∀ y : Lat NoX W, y.world.cell? ⟨k7, 5, none⟩ = some (.int .i64 b.wire) := fun y => (HB7W.out.ext (Lat.ext0 y)).cell 5 rfl
  have n0 : ∀ y : Lat NoX W, y.world.cell? ⟨k18, 0, none⟩ = some (.int .i64 px) := fun y => (HK18W.out.ext (Lat.ext0 y)).cell 0 rfl
  have n1 : ∀ y : Lat NoX W, y.world.cell? ⟨k18, 1, none⟩ = some (.int .i64 M) := fun y => (HK18W.out.ext (Lat.ext0 y)).cell 1 rfl
  have n2 : ∀ y : Lat NoX W, y.world.cell? ⟨k18, 2, none⟩ = some (.int .i64 py) := fun y => (HK18W.out.ext (Lat.ext0 y)).cell 2 rfl
  have n3 : ∀ y : Lat NoX W, y.world.cell? ⟨k18, 3, none⟩ = some (.int .i64 (py + S1)) := fun y => (HK18W.out.ext (Lat.ext0 y)).cell 3 rfl
  refine wp_region_ext (by kernel_rfl) [.no, .boa b b, .no, .lst l1] (by kernel_rfl) (Nat.le_of_ble_eq_true rfl) ?_
  intro T hT hne u hu
  obtain ⟨p1, p2, p3, p4, p5, p6, u1⟩ : BoaS b (u 1) := hu 1 rfl
  obtain ⟨ga, gc, u3⟩ : LstS l1 (u 3) := hu 3 rfl
  clear hu
  refine lx_next 1 (by rfl) (by decide) ?_
  dsimp only [List.take, List.drop]
  repeat (go_big_quiet_step (fail))
  refine wpQuiet_nil ?_
  refine lx_loud (by rfl) (by kernel_rfl) ?_ (fun K hK => ?_)
  · intro L w3 hL hd hcl hC hs
    obtain ⟨y, rfl⟩ := hC
    have hxy := Lat.ext0 y

    go_wp2_with fail
    refine (law_own ⟨a1, a2, a3, a4, a5, a6⟩ b _ (HBW.out.ext hxy) HN.out HSM.out).mono ?_
    rintro e w' ⟨v', rfl, hB', hN', -, hx⟩
    have HRK := Lib.hid (rik_call (i := 1) y hs ⟨_, _, _, _, _, _, rfl⟩ hx ⟨_, rfl, hB', hN'⟩)
    clear hs
    go_wp2
    exact HRK.out
  rw [u1]
  go_simp
  with_reducible refine hK _ ?_
  clear hK K
  refine lx_next 1 (by rfl) (by decide) ?_
  dsimp only [List.take, List.drop]
  repeat (go_big_quiet_step (fail))
  refine wpQuiet_nil ?_
  refine lx_loud (by rfl) (by kernel_rfl) ?_ (fun K hK => ?_)
  · intro L w3 hL hd hcl hC hs
    obtain ⟨y, rfl⟩ := hC
    have hxy := Lat.ext0 y
    have h1 := hs 1 rfl (hd 1 (by kernel_rfl))
    rw [u1] at h1
    obtain ⟨hB1, hN1⟩ := BoaT.at h1
    go_wp2_with fail
    refine (HBE1.out ⟨p1, p2, p3, p4, p5, p6⟩ _ hB1).mono ?_
    rintro e w' ⟨xa, xc, rfl, hcl, hx⟩
    have HRK := Lib.hid (rik_call (i := 3) y hs ⟨xa, xc, rfl⟩ hx ⟨xa, xc, rfl, hcl⟩)
    clear hs
    go_wp2
    exact HRK.out
  rw [u3]
  go_simp
  with_reducible refine hK _ ?_
  clear hK K
  refine lx_next 5 (by rfl) (by decide) ?_
  dsimp only [List.take, List.drop]
  repeat (go_big_quiet_step (fail))
  refine wpQuiet_nil ?_
  refine lx_nil ?_
  intro y hs
  have hxy := Lat.ext0 y
  have HX2 := Lib.hid hxy
  have h3 := hs 3 rfl rfl
  rw [u3] at h3
  have HL1 := Lib.hid h3.at
  generalize y.world = W2 at *
  clear hs hxy m0 m1 m2 m3 m4 m5 n0 n1 n2 n3 hT hne u1 u3 h3
  have HB7W2 := Lib.hid (HB7W.out.ext HX2.out)
  have HBW2 := Lib.hid (HBW.out.ext HX2.out)
  have HLW2 := Lib.hid (HLW.out.ext HX2.out)
  have HK19W2 := Lib.hid (HK19W.out.ext HX2.out)
  have HXw2 := Lib.hid (HXw.out.trans HX2.out)
  go_upto_region 20 with fail
  have m0 : ∀ y : Lat NoX W2, y.world.cell? ⟨k7, 0, none⟩ = some (.int .i64 b.eye) := fun y => (HB7W2.out.ext (Lat.ext0 y)).cell 0 rfl
  have m1 : ∀ y : Lat NoX W2, y.world.cell? ⟨k7, 1, none⟩ = some (.int .i64 b.bull) := fun y => (HB7W2.out.ext (Lat.ext0 y)).cell 1 rfl
  have m2 : ∀ y : Lat NoX W2, y.world.cell? ⟨k7, 2, none⟩ = some (.slice a1 b.rings.length a4) := fun y => (HB7W2.out.ext (Lat.ext0 y)).cell 2 rfl
  have m3 : ∀ y : Lat NoX W2, y.world.cell? ⟨k7, 3, none⟩ = some (.slice a2 b.lines.length a5) := fun y => (HB7W2.out.ext (Lat.ext0 y)).cell 3 rfl
  have m4 : ∀ y : Lat NoX W2, y.world.cell? ⟨k7, 4, none⟩ = some (.slice a3 b.nums.length a6) := fun y => (HB7W2.out.ext (Lat.ext0 y)).cell 4 rfl
  have m5 : ∀ y : Lat NoX W2, y.world.cell? ⟨k7, 5, none⟩ = some (.int .i64 b.wire) := fun y => (HB7W2.out.ext (Lat.ext0 y)).cell 5 rfl
  have n0 : ∀ y : Lat NoX W2, y.world.cell? ⟨k19, 0, none⟩ = some (.int .i64 (M + 1)) := fun y => (HK19W2.out.ext (Lat.ext0 y)).cell 0 rfl
  have n1 : ∀ y : Lat NoX W2, y.world.cell? ⟨k19, 1, none⟩ = some (.int .i64 (px + S0)) := fun y => (HK19W2.out.ext (Lat.ext0 y)).cell 1 rfl
  have n2 : ∀ y : Lat NoX W2, y.world.cell? ⟨k19, 2, none⟩ = some (.int .i64 py) := fun y => (HK19W2.out.ext (Lat.ext0 y)).cell 2 rfl
  have n3 : ∀ y : Lat NoX W2, y.world.cell? ⟨k19, 3, none⟩ = some (.int .i64 (py + S1)) := fun y => (HK19W2.out.ext (Lat.ext0 y)).cell 3 rfl
  refine wp_region_ext (by kernel_rfl) [.no, .boa b b, .no, .lst l2] (by kernel_rfl) (Nat.le_of_ble_eq_true rfl) ?_
  intro T hT hne u hu
  obtain ⟨p1, p2, p3, p4, p5, p6, u1⟩ : BoaS b (u 1) := hu 1 rfl
  obtain ⟨ha, hc, u3⟩ : LstS l2 (u 3) := hu 3 rfl
  clear hu
  refine lx_next 1 (by rfl) (by decide) ?_
  dsimp only [List.take, List.drop]
  repeat (go_big_quiet_step (fail))
  refine wpQuiet_nil ?_
  refine lx_loud (by rfl) (by kernel_rfl) ?_ (fun K hK => ?_)
  · intro L w3 hL hd hcl hC hs
    obtain ⟨y, rfl⟩ := hC
    have hxy := Lat.ext0 y

    go_wp2_with fail
    refine (law_own ⟨a1, a2, a3, a4, a5, a6⟩ b _ (HBW2.out.ext hxy) HN.out HSM.out).mono ?_
    rintro e w' ⟨v', rfl, hB', hN', -, hx⟩
    have HRK := Lib.hid (rik_call (i := 1) y hs ⟨_, _, _, _, _, _, rfl⟩ hx ⟨_, rfl, hB', hN'⟩)
    clear hs
    go_wp2
    exact HRK.out
  rw [u1]
  go_simp
  with_reducible refine hK _ ?_
  clear hK K
  refine lx_next 1 (by rfl) (by decide) ?_
  dsimp only [List.take, List.drop]
  repeat (go_big_quiet_step (fail))
  refine wpQuiet_nil ?_
  refine lx_loud (by rfl) (by kernel_rfl) ?_ (fun K hK => ?_)
  · intro L w3 hL hd hcl hC hs
    obtain ⟨y, rfl⟩ := hC
    have hxy := Lat.ext0 y
    have h1 := hs 1 rfl (hd 1 (by kernel_rfl))
    rw [u1] at h1
    obtain ⟨hB1, hN1⟩ := BoaT.at h1
    go_wp2_with fail
    refine (HBE2.out ⟨p1, p2, p3, p4, p5, p6⟩ _ hB1).mono ?_
    rintro e w' ⟨xa, xc, rfl, hcl, hx⟩
    have HRK := Lib.hid (rik_call (i := 3) y hs ⟨xa, xc, rfl⟩ hx ⟨xa, xc, rfl, hcl⟩)
    clear hs
    go_wp2
    exact HRK.out
  rw [u3]
  go_simp
  with_reducible refine hK _ ?_
  clear hK K
  refine lx_next 5 (by rfl) (by decide) ?_
  dsimp only [List.take, List.drop]
  repeat (go_big_quiet_step (fail))
  refine wpQuiet_nil ?_
  refine lx_nil ?_
  intro y hs
  have hxy := Lat.ext0 y
  have h3 := hs 3 rfl rfl
  rw [u3] at h3
  have HL2 := Lib.hid h3.at
  have HL1' := Lib.hid (HL1.out.ext hxy)
  have HLs := Lib.hid (HLW2.out.ext hxy)
  have HX3 := Lib.hid (HXw2.out.trans hxy)
  generalize y.world = W3 at *
  clear hs hxy m0 m1 m2 m3 m4 m5 n0 n1 n2 n3 hT hne u1 u3 h3 HL1 HLW2 HLW HL HXw HXw2 HX2 HXW HX HB7W2 HB7W HB7 HB9 HBW HBW2 HB HK18W HK19W HK19W2 HBE1 HBE2 HB9l HB7l
  have hst := run_zero_seen W3
  go_upto_region 24 with fail
  obtain ⟨hsn1, hX4⟩ := zero_seen W3
  generalize (W3.alloc (.cells Try.zeroCells59 59)).setCells W3.heap.size 0 Try.zeroCells59.toList = W4 at *
  have HM0 := Lib.hid hsn1
  have HX4 := Lib.hid hX4
  clear hsn1 hX4 hst
  have hw3 : w.heap.size ≤ W3.heap.size := HX3.out.size
  go_wp2
  go_loopw [25] (fun i wr => ∃ k : Nat, k ≤ l1.length ∧ i = .int .i64 k ∧ Blk wr W3.heap.size (markC (l1.take k)) ∧ Chg (fun k => k = W3.heap.size) W4 wr) (fun i _ => l1.length - (intOf i).toNat)
  case atStart => exact ⟨0, Nat.zero_le _, rfl, HM0.out, Chg.refl _ W4⟩
  case round =>
    obtain ⟨k, hk, rfl, hM, hC⟩ := hrel
    have h1l := H1L.out
    have HMk := Lib.hid hM
    have HCk := Lib.hid hC
    have HXk := Lib.hid (Chg.to_ext HX4.out hC (by rintro i rfl; exact Nat.le_refl _))
    clear hM hC
    by_cases hlt : k < l1.length
    · obtain ⟨gb, go, e, c0⟩ := (HL1'.out.ext HXk.out) k hlt
      have hr1 := H1R.out l1[k] (List.getElem_mem hlt)
      have HST := Lib.hid (List.take_succ_eq_append_getElem hlt)
      obtain ⟨z, hz⟩ : ∃ z : Nat, l1[k] = (z : Int) := ⟨l1[k].toNat, by omega⟩
      rw [hz] at c0 hr1 HST
      obtain ⟨-, hz2⟩ := hr1
      have hz5 : z < 500 := by omega
      subst e
      have c1 := lt_of_cell c0
      simp only at c1
      have m0 := HMk.out.cell z (markC_get _ hz5)
      have m1 := HMk.out.frozen z
      have m2 := HMk.out.lt
      clear hz
      go_wp2
      have hM' := HMk.out.set z (.bool true)
      rw [markC_set _ hz5, ← HST.out] at hM'
      have HM' := Lib.hid hM'
      have HC' := Lib.hid (HCk.out.setCell (p := ⟨W3.heap.size, z, none⟩) (.inr rfl) (.bool true))
      clear hM'
      go_roundw
      case rel => exact ⟨k + 1, by omega, by go_num, HM'.out, HC'.out⟩
      case measure => simp [intOf]; omega
    · obtain rfl : k = l1.length := by omega
      have HM1 : Hid (Blk wr W3.heap.size (markC l1)) := Lib.hid (by have := HMk.out; rwa [List.take_of_length_le (Nat.le_refl _)] at this)
      obtain ⟨W5, hW5⟩ : ∃ x, wr = x := ⟨_, rfl⟩
      rw [hW5] at HM1 HXk ⊢
      clear hW5 HMk HCk HX4 HM0
      go_wp2
      go_loopw [26] (fun i wr => ∃ k : Nat, k ≤ l2.length ∧ i = .int .i64 k ∧ Blk wr W3.heap.size (markC (l1 ++ l2.take k)) ∧ Chg (fun k => k = W3.heap.size) W5 wr) (fun i _ => l2.length - (intOf i).toNat)
      case atStart => exact ⟨0, Nat.zero_le _, rfl, by simpa using HM1.out, Chg.refl _ W5⟩
      case round =>
        obtain ⟨k, hk, rfl, hM, hC⟩ := hrel
        have h2l := H2L.out
        have HMk := Lib.hid hM
        have HCk := Lib.hid hC
        have HX5 := Lib.hid (Chg.to_ext HXk.out hC (by rintro i rfl; exact Nat.le_refl _))
        clear hM hC
        by_cases hlt : k < l2.length
        · obtain ⟨gb, go, e, c0⟩ := (HL2.out.ext HX5.out) k hlt
          have hr1 := H2R.out l2[k] (List.getElem_mem hlt)
          have HST := Lib.hid (List.take_succ_eq_append_getElem hlt)
          obtain ⟨z, hz⟩ : ∃ z : Nat, l2[k] = (z : Int) := ⟨l2[k].toNat, by omega⟩
          rw [hz] at c0 hr1 HST
          obtain ⟨-, hz2⟩ := hr1
          have hz5 : z < 500 := by omega
          subst e
          have c1 := lt_of_cell c0
          simp only at c1
          have m0 := HMk.out.cell z (markC_get _ hz5)
          have m1 := HMk.out.frozen z
          have m2 := HMk.out.lt
          clear hz
          go_wp2
          have hM' := HMk.out.set z (.bool true)
          rw [markC_set _ hz5, List.append_assoc, ← HST.out] at hM'
          have HM' := Lib.hid hM'
          have HC' := Lib.hid (HCk.out.setCell (p := ⟨W3.heap.size, z, none⟩) (.inr rfl) (.bool true))
          clear hM'
          go_roundw
          case rel => exact ⟨k + 1, by omega, by go_num, HM'.out, HC'.out⟩
          case measure => simp [intOf]; omega
        · obtain rfl : k = l2.length := by omega
          have HM2 : Hid (Blk wr W3.heap.size (markC (l1 ++ l2))) := Lib.hid (by have := HMk.out; rwa [List.take_of_length_le (Nat.le_refl _)] at this)
          obtain ⟨W6, hW6⟩ : ∃ x, wr = x := ⟨_, rfl⟩
          rw [hW6] at HM2 HX5 ⊢
          clear hW6 HMk HCk HM1 HXk
          generalize l1 ++ l2 = S at *
          have HCT : Hid (ls.length = cntB S 500) := Lib.hid (by rw [HHM.out]; exact setL_cnt S)
          have HCL : Hid (∀ j : Nat, j < 500 → S.contains (j : Int) = true → ∃ hb : cntB S j < ls.length, ls[cntB S j] = (j : Int)) := Lib.hid (by rw [HHM.out]; exact fun j h hc => setL_lt S h hc)
          have HCS := Lib.hid (cntB_small S)
          have HCU := Lib.hid (cntB_succ S)
          have hln : ls.length ≤ 500 := by rw [HCT.out]; exact cntB_small S 500
          have HLs6 := Lib.hid (HLs.out.ext HX5.out)
          go_wp2
          go_loopw [27, 28] (fun m i wr => ∃ k : Nat, k ≤ 500 ∧ m = .int .i64 (cntB S k) ∧ i = .int .i64 k ∧ wr = W6) (fun _ i _ => 500 - (intOf i).toNat)
          case atStart => exact ⟨0, Nat.zero_le _, rfl, rfl, rfl⟩
          case round =>
            obtain ⟨k, hk, rfl, rfl, rfl⟩ := hrel
            have m2 := HM2.out.lt
            by_cases hlt : k < 500
            · have m0 := HM2.out.cell k (markC_get _ hlt)
              have hcu := HCU.out k
              have hcs := HCS.out k
              cases hc : S.contains (k : Int)
              case true =>
                rw [hc] at m0 hcu
                rw [if_pos rfl] at hcu
                obtain ⟨hb1, hb2⟩ := HCL.out k hlt hc
                have HQ := Lib.hid hcu
                obtain ⟨gb, go, e, c0⟩ := HLs6.out _ hb1
                rw [hb2] at c0
                have c1 := lt_of_cell c0
                simp only at c1
                subst e
                generalize cntB S k = q at *
                have hb3 : ¬ (ls.length ≤ q) := by omega
                clear hcu hb2 hc
                go_wp2
                go_roundw
                case rel => exact ⟨k + 1, by omega, by rw [HQ.out]; go_num, by go_num, by first | trivial | rfl⟩
                case measure => simp [intOf]; omega
              case false =>
                rw [hc] at m0 hcu
                rw [if_neg (by simp)] at hcu
                have HQ := Lib.hid hcu
                clear hcu hc
                go_wp2
                go_roundw
                case rel => exact ⟨k + 1, by omega, by rw [HQ.out]; rfl, by go_num, by first | trivial | rfl⟩
                case measure => simp [intOf]; omega
            · obtain rfl : k = 500 := by omega
              rw [← HCT.out]
              go_wp2_with fail
              refine (law_known _).mono ?_
              rintro e w19 ⟨rfl, hx19⟩
              have HXE := Lib.hid ((HX3.out.trans HX5.out).trans hx19)
              clear hx19
              go_wp2
              go_ret
              exact ⟨rfl, HXE.out⟩
end Go.Proofs.Ytlkbbcfbnbnagaa
