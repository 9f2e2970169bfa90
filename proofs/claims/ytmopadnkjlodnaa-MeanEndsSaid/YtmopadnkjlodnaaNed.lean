/-
  MeanEnds, walked: a round of its loop (under way).
-/
import Derived.Test.YtmopadnkjlodnaaNef
import Derived.Test.YtmopadnkjlodnaaNtj
import Derived.Test.YtmopadnkjlodnaaNeb
import Derived.Test.YtmopadnkjlodnaaMsh
import Derived.Deep.CutBlock
import Derived.Deep.DeepCutAuto
namespace Go.Proofs.Ytmopadnkjlodnaa
open Go.RowKit Go.BigFrame
attribute [local go_sem] Later.cell Later.frozen Lat.cell Lat.frozen NoX
theorem jx0 (a b c d : Int) (W : World) : (Instr.index 86 (.agg #[.int .i64 a, .int .i64 b, .int .i64 c, .int .i64 d]) (.int .i64 0)).run Try.prog W = .ok (.int .i64 a) W := by set_option maxRecDepth 100000 in rfl
theorem jx1 (a b c d : Int) (W : World) : (Instr.index 86 (.agg #[.int .i64 a, .int .i64 b, .int .i64 c, .int .i64 d]) (.int .i64 1)).run Try.prog W = .ok (.int .i64 b) W := by set_option maxRecDepth 100000 in rfl
theorem jx2 (a b c d : Int) (W : World) : (Instr.index 86 (.agg #[.int .i64 a, .int .i64 b, .int .i64 c, .int .i64 d]) (.int .i64 2)).run Try.prog W = .ok (.int .i64 c) W := by set_option maxRecDepth 100000 in rfl
theorem jx3 (a b c d : Int) (W : World) : (Instr.index 86 (.agg #[.int .i64 a, .int .i64 b, .int .i64 c, .int .i64 d]) (.int .i64 3)).run Try.prog W = .ok (.int .i64 d) W := by set_option maxRecDepth 100000 in rfl
attribute [local go_sem] jx0 jx1 jx2 jx3
theorem eqFrb (d : Nat) (a b a' b' : Int) (w : World) : (Op.equalIn (d + 2) 57 (.agg #[.int .i64 a, .int .i64 b]) (.agg #[.int .i64 a', .int .i64 b'])).run Try.prog w = .ok (a == a' && b == b') w := by
  have u3 := Try.underlying3
  have a3 := Try.isAgg3
  have z3 := Try.sizeOf3
  have hS : Try.prog.underlying 57 = some (.struct (Try.prog.fieldsOf 57)) := by kernel_rfl
  rw [run_equalIn_struct w (d + 1) 57 _ _ hS (by kernel_rfl)]
  simp only [Program.fieldsOf, Try.underlying57]
  go_simp
  by_cases h1 : a = a' <;> by_cases h2 : b = b' <;> simp [h1, h2]
theorem Tld.ok.mem {bl : List Int} {d : Tld} (h : d.ok bl) : ∀ l ∈ d.vs, (1 ≤ l.length ∧ l.length ≤ 3) ∧ ∀ b ∈ l, BedOk b := by
  intro l hl
  obtain ⟨k, hk, rfl⟩ := List.mem_iff_getElem.1 hl
  obtain ⟨e, r, hS⟩ := step_k h.law h.run k hk
  have hv := vsE_of (laws_cnt h.law).2 hS.st hS.run
  exact ⟨hv.len, hv.mem⟩
set_option maxRecDepth 100000 in
set_option maxHeartbeats 16000000 in
theorem ends_round (c : Code) (hcd : codeBlk 1 (Try.f9.body.getD .skip) = some c) (bl : List Int) (hbl : 1 ≤ bl.length ∧ bl.length ≤ 82) (HI64 : Hid (∀ b ∈ bl, I64 b)) (start gin gout : Int) (hstb : 2 ≤ start ∧ start ≤ 512) (ovs : List (List Int)) (ox : Exa) (HOK : Hid (Tld.ok bl (Tld.mk start gin gout ovs ox))) (HVL : Hid (1 ≤ ox.scores.length ∧ ox.scores.length ≤ 15)) (lb lo lc k4 k13 kS kA : Nat) (a7 s7 : Option Addr) (c7 d7 : Nat) (base : Nat) (en : Nat) (hen : 1 ≤ en ∧ en ≤ 4) (w0 : World)
    (HC : Hid (Blk w0 k4 #[.int .i64 start, .int .i64 gin, .int .i64 gout])) (HG : Hid (Blk w0 k13 #[.int .i64 start, .int .i64 gin, .int .i64 gout, .slice a7 bl.length c7, .slice s7 ox.scores.length d7, .bool ox.won])) (HOB : Hid (OwnD w0 base (.slice (some ⟨lb, lo, none⟩) bl.length lc) bl)) (HOL : Hid (OwnD w0 base (.slice a7 bl.length c7) bl)) (HOS : Hid (OwnI w0 base (.slice s7 ox.scores.length d7) ox.scores)) (tlg twn tvi tpt tdl tdh ttl tth tto thi ttp tbe : Int) (al ad ah ae : Int) (HT : Hid (Blk w0 kS #[.int .i64 tlg, .int .i64 twn, .int .i64 tvi, .int .i64 tpt, .int .i64 tdl, .int .i64 tdh, .int .i64 ttl, .int .i64 tth, .int .i64 tto, .int .i64 thi, .int .i64 ttp, .int .i64 tbe])) (HA : Hid (Blk w0 kA #[.int .i64 al, .int .i64 ad, .int .i64 ah, .int .i64 ae]))
    (HTT : Hid (legT 100 (Tld.leg bl (Tld.mk start gin gout ovs ox)) ((goT start ox.scores ox.won ox.scores.length).map (fun s => spnF (allOf gin gout bl s))) (oneMore tot0) ox.scores.length = ⟨tlg, twn, tvi, tpt, ⟨tdl, tdh⟩, ⟨ttl, tth⟩, tto, thi, ttp, tbe⟩)) (HPT : Hid (tpt = ox.t.points)) (HFR : Hid (fracS (3 * tpt) tdh = ⟨al, ad⟩ ∧ fracS (3 * tpt) tdl = ⟨ah, ae⟩))
    {s0 s1 s2 s5 s6 s8 s9 s11 s12 s16 s17 s18 s19 s20 s21 s22 s23 s24 s25 s26 s27 s28 s29 s30 s31 s32 s33 s34 s35 s36 s37 s38 s39 s40 s41 s42 s43 s44 s45 s46 s47 s48 s49 s50 s51 s52 s53 s54 s55 s56 s57 s58 s59 s60 s61 s62 s63 s64 s65 s66 s67 s68 s69 s70 s71 s72 s73 s74 s75 s76 s77 s78 s79 s80 s81 s82 s83 s84 s85 s86 s87 s88 s89 s90 s91 s92 s93 s94 s95 s96 s97 s98 s99 s100 s101 s102 s103 s104 s105 s106 s107 s108 s109 s110 s111 s112 s113 s114 s115 s116 s117 s118 s119 s120 s121 s122 s123 s124 s125 s126 s127 s128 s129 s130 s131 s132 s133 s134 s135 s136 s137 s138 s139 s140 s141 s142 s143 s144 s145 s146 s147 s148 s149 s150 s151 s152 s153 s154 s155 s156 s157 s158 s159 s160 s161 s162 s163 s164 s165 s166 s167 s168 s169 s170 s171 s172 s173 s174 s175 s176 s177 s178 s179 s180 s181 s182 s183 s184 s185 s186 s187 s188 s189 s190 s191 s192 s193 s194 s195 s196 s197 s198 s199 s200 s201 s202 s203 s204 s205 s206 s207 : Value} (Q : Exit → Act → World → Prop) (hQ : ∀ ⦃r2 r16 r17 r18 r19 r20 r21 r22 r23 r24 r25 r66 r67 r68 r69 r70 r71 r72 r73 r74 r75 r76 r77 r78 r79 r80 r81 r82 r83 r84 r85 r86 r87 r88 r89 r90 r91 r92 r93 r94 r95 r96 r97 r98 r99 r100 r101 r102 r103 r104 r105 r106 r107 r108 r109 r110 r111 r112 r113 r114 r115 r116 r117 r118 r119 r120 r121 r122 r123 r124 r125 r126 r127 r128 r129 r130 r131 r132 r133 r134 r135 r136 r137 r138 r139 r140 r141 r142 r143 r144 r145 r146 r147 r148 r149 r150 r151 r152 r153 r154 r155 r156 r157 r158 r159 r160 r161 r162 r163 r164 r165 r166 r167 r168 r169 r170 r171 r172 r173 r174 r175 r176 r177 r178 r179 r180 r181 r182 r183 r184 r185 r186 r187 r188 r189 r190 r191 r192 r193 r194 r195 r196 r197 r198 r199 r200 r201 r202 r203 r204 r205 r206 : Value⦄ (wx : World), Ext w0 wx → Q .normal { tmps := #[s0, s1, r2, .slice (some ⟨lb, lo, none⟩) bl.length lc, .pointer (some ⟨k4, 0, none⟩), s5, s6, .pointer (some ⟨k13, 0, none⟩), s8, s9, .pointer (some ⟨kS, 0, none⟩), s11, s12, .pointer (some ⟨kA, 0, none⟩), .int .i64 0, .int .i64 en, r16, r17, r18, r19, r20, r21, r22, r23, r24, r25, s26, s27, s28, s29, s30, s31, s32, s33, s34, s35, s36, s37, s38, s39, s40, s41, s42, s43, s44, s45, s46, s47, s48, s49, s50, s51, s52, s53, s54, s55, s56, s57, s58, s59, s60, s61, s62, s63, s64, s65, r66, r67, r68, r69, r70, r71, r72, r73, r74, r75, r76, r77, r78, r79, r80, r81, r82, r83, r84, r85, r86, r87, r88, r89, r90, r91, r92, r93, r94, r95, r96, r97, r98, r99, r100, r101, r102, r103, r104, r105, r106, r107, r108, r109, r110, r111, r112, r113, r114, r115, r116, r117, r118, r119, r120, r121, r122, r123, r124, r125, r126, r127, r128, r129, r130, r131, r132, r133, r134, r135, r136, r137, r138, r139, r140, r141, r142, r143, r144, r145, r146, r147, r148, r149, r150, r151, r152, r153, r154, r155, r156, r157, r158, r159, r160, r161, r162, r163, r164, r165, r166, r167, r168, r169, r170, r171, r172, r173, r174, r175, r176, r177, r178, r179, r180, r181, r182, r183, r184, r185, r186, r187, r188, r189, r190, r191, r192, r193, r194, r195, r196, r197, r198, r199, r200, r201, r202, r203, r204, r205, r206, s207], defers := [] } wx) :
    c.wp Try.prog Q { tmps := #[s0, s1, s2, .slice (some ⟨lb, lo, none⟩) bl.length lc, .pointer (some ⟨k4, 0, none⟩), s5, s6, .pointer (some ⟨k13, 0, none⟩), s8, s9, .pointer (some ⟨kS, 0, none⟩), s11, s12, .pointer (some ⟨kA, 0, none⟩), .int .i64 0, .int .i64 en, s16, s17, s18, s19, s20, s21, s22, s23, s24, s25, s26, s27, s28, s29, s30, s31, s32, s33, s34, s35, s36, s37, s38, s39, s40, s41, s42, s43, s44, s45, s46, s47, s48, s49, s50, s51, s52, s53, s54, s55, s56, s57, s58, s59, s60, s61, s62, s63, s64, s65, s66, s67, s68, s69, s70, s71, s72, s73, s74, s75, s76, s77, s78, s79, s80, s81, s82, s83, s84, s85, s86, s87, s88, s89, s90, s91, s92, s93, s94, s95, s96, s97, s98, s99, s100, s101, s102, s103, s104, s105, s106, s107, s108, s109, s110, s111, s112, s113, s114, s115, s116, s117, s118, s119, s120, s121, s122, s123, s124, s125, s126, s127, s128, s129, s130, s131, s132, s133, s134, s135, s136, s137, s138, s139, s140, s141, s142, s143, s144, s145, s146, s147, s148, s149, s150, s151, s152, s153, s154, s155, s156, s157, s158, s159, s160, s161, s162, s163, s164, s165, s166, s167, s168, s169, s170, s171, s172, s173, s174, s175, s176, s177, s178, s179, s180, s181, s182, s183, s184, s185, s186, s187, s188, s189, s190, s191, s192, s193, s194, s195, s196, s197, s198, s199, s200, s201, s202, s203, s204, s205, s206, s207], defers := [] } w0 := by
  let Q2 : Exit → Act → World → Prop := bodyPost Try.prog Try.f9 fun _ _ => True
  have HQ := Lib.hid hQ
  clear hQ
  simp only [Try.f9, Option.getD_some, codeBlk, ↓reduceIte, Nat.reduceEqDiff, Option.some.injEq] at hcd
  subst hcd
  have HSI : Hid (∀ y ∈ ox.scores, I64 y) := Lib.hid HOK.out.sco.2
  obtain ⟨vs, x, hsh, hwl, hrun, hsc, hwn, hpar⟩ := ends_shown (en := (en : Int)) HOK.out (by omega)
  have HSH := Lib.hid hsh
  have HRUN : Hid (rxG gin gout bl vs 0 (exa0 start) = .inl x) := Lib.hid hrun
  have HWL : Hid (vs.length = ox.scores.length) := Lib.hid hwl
  have HSW : Hid (x.scores = ox.scores ∧ x.won = ox.won) := Lib.hid ⟨hsc, hwn⟩
  have HPAR := Lib.hid hpar
  clear hsh hwl hrun hsc hwn hpar
  have HCY := Lib.hid (law_copied start gin gout bl a7 c7 ox.scores s7 d7 ox.won w0 (BedA.own HOL.out HI64.out) (BedA.ownI HOS.out HSI.out) (by omega) (by have := HVL.out; omega))
  have g0 := HG.out.cell 0 (v := .int .i64 start) rfl
  have g1 := HG.out.cell 1 (v := .int .i64 gin) rfl
  have g2 := HG.out.cell 2 (v := .int .i64 gout) rfl
  have g3 := HG.out.cell 3 (v := .slice a7 bl.length c7) rfl
  have g4 := HG.out.cell 4 (v := .slice s7 ox.scores.length d7) rfl
  have g5 := HG.out.cell 5 (v := .bool ox.won) rfl
  have gl := HG.out.lt
  go_wp2_with fail
  refine HCY.out.mono ?_
  rintro e w1 ⟨ia, ic, ja, jc, rfl, hO1, hO2, hx1⟩
  have hmv := mean_Show ⟨start, gin, gout, bl, ox.scores, ox.won⟩ en ia ja ic jc w1 ⟨hO1.rd (fun _ _ h => h), RdI.of_own hO2 (fun _ _ h => h), HI64.out, HSI.out, ⟨by show _ ≤ start; omega, by show start ≤ _; omega⟩⟩
  have hsh' : shwS ⟨start, gin, gout, bl, ox.scores, ox.won⟩ en = (vs, 0, 0) := HSH.out
  rw [hsh'] at hmv
  unfold Leg.agg at hmv
  dsimp only at hmv
  have HMV := Lib.hid hmv
  have HX1 := Lib.hid hx1
  clear hO1 hO2 hx1 hmv hsh' g0 g1 g2 g3 g4 g5 gl
  go_wp2_with fail
  refine HMV.out.mono ?_
  rintro e w2 ⟨v, rfl, hW, hx2⟩
  obtain ⟨va, vc, rfl⟩ := hW.shape
  have HX2 := Lib.hid (HX1.out.trans hx2)
  have HW2 := Lib.hid hW
  clear hW hx2
  go_upto_region 12 with fail
  have HDX : Hid (Tld.ok bl (Tld.mk start gin gout vs x)) := Lib.hid ⟨HOK.out.law, HRUN.out, by have h1 := HVL.out; have h2 := HWL.out; show 1 ≤ vs.length ∧ vs.length ≤ 15; omega⟩
  have HVL2 : Hid (1 ≤ vs.length ∧ vs.length ≤ 15) := Lib.hid HDX.out.len
  have HMEM : Hid (∀ l ∈ vs, (1 ≤ l.length ∧ l.length ≤ 3) ∧ ∀ b ∈ l, BedOk b) := Lib.hid HDX.out.mem
  have HEF : Hid (exaF start gin gout bl vs = .inl x) := Lib.hid (by
    rw [exa_ref]
    unfold rxF
    rw [if_neg (by rw [show lawsB start gin gout bl = true from HOK.out.law]; decide), if_neg (by have := HVL2.out; omega)]
    exact HRUN.out)
  have HVI : Hid (∀ v ∈ vs, v.length ≤ 1000 ∧ ∀ y ∈ v, I64 y) := Lib.hid (fun v hv => by
    obtain ⟨h1, h2⟩ := HMEM.out v hv
    exact ⟨by omega, fun y hy => by have := (h2 y hy).parts.1; exact ⟨by omega, by omega⟩⟩)
  have HOB6 := Lib.hid (OwnD.ext HOB.out HX2.out)
  have HC2 := Lib.hid (HC.out.ext HX2.out)
  have HCP := Lib.hid (fun W (hx : Ext w2 W) => law_copies vs va vc W (by
    obtain ⟨a', c', e', h'⟩ := ways_vsa (HW2.out.ext hx) (fun v hv => (HVI.out v hv).2)
    cases e'
    exact h') (by have := HVL2.out; omega) (fun v hv => (HVI.out v hv).1))
  have HEX : Hid (∀ W (a3 : Option Addr) (c3 : Nat) (a6 : Option Addr) (c6 : Nat), OwnD W w2.heap.size (.slice a3 bl.length c3) bl → WaysAt W w2.heap.size (.slice a6 vs.length c6) vs → Calls Try.prog 30 #[.agg #[.int .i64 start, .int .i64 gin, .int .i64 gout], .slice a3 bl.length c3, .slice a6 vs.length c6] W fun e w' => (∃ la lc sa sc, e = .returned (.tuple #[.agg x.t.cells, .agg #[.int .i64 start, .int .i64 gin, .int .i64 gout, .slice la bl.length lc, .slice sa x.scores.length sc, .bool x.won], .int .i64 0, .int .i64 0]) ∧ OwnD w' W.heap.size (.slice la bl.length lc) bl ∧ OwnI w' W.heap.size (.slice sa x.scores.length sc) x.scores) ∧ Ext W w') := Lib.hid (fun W a3 c3 a6 c6 h3 h6 => by
    obtain ⟨a', c', e', h'⟩ := ways_vsa h6 (fun v hv => (HVI.out v hv).2)
    cases e'
    refine (mean_Exact start gin gout bl a3 c3 vs a6 c6 W ⟨by omega, by omega⟩ (h3.rd (fun _ _ h => h)) HI64.out (h'.vss (fun v hv => (HVI.out v hv).1)) (by have := HVL2.out; omega)).mono ?_
    rintro e w' ⟨h1, h2⟩
    rw [HEF.out] at h1
    exact ⟨h1, h2⟩)
  unfold Tot.cells at HEX
  have m0 : ∀ y : Lat NoX w2, y.world.cell? ⟨k4, 0, none⟩ = some (.int .i64 start) := fun y => (HC2.out.ext (Lat.ext0 y)).cell 0 rfl
  have m1 : ∀ y : Lat NoX w2, y.world.cell? ⟨k4, 1, none⟩ = some (.int .i64 gin) := fun y => (HC2.out.ext (Lat.ext0 y)).cell 1 rfl
  have m2 : ∀ y : Lat NoX w2, y.world.cell? ⟨k4, 2, none⟩ = some (.int .i64 gout) := fun y => (HC2.out.ext (Lat.ext0 y)).cell 2 rfl
  have ml := HC2.out.lt
  go_cut [19, 20, 21, 22] (fun p q a e wx => ∃ (k12 k13' : Nat) (b7 : Option Addr) (e7 : Nat) (t7 : Option Addr) (f7 : Nat), p = .pointer (some ⟨k12, 0, none⟩) ∧ q = .pointer (some ⟨k13', 0, none⟩) ∧ a = .int .i64 0 ∧ e = .int .i64 0 ∧ Blk wx k12 #[.int .i64 x.t.legs, .int .i64 x.t.won, .int .i64 x.t.visits, .int .i64 x.t.points, .int .i64 x.t.darts.lo, .int .i64 x.t.darts.hi, .int .i64 x.t.tried.lo, .int .i64 x.t.tried.hi, .int .i64 x.t.tons, .int .i64 x.t.highs, .int .i64 x.t.tops, .int .i64 x.t.best] ∧ Blk wx k13' #[.int .i64 start, .int .i64 gin, .int .i64 gout, .slice b7 bl.length e7, .slice t7 x.scores.length f7, .bool x.won] ∧ OwnI wx w2.heap.size (.slice t7 x.scores.length f7) x.scores ∧ Ext w2 wx)
  case first =>
    refine wp_region_lat (by kernel_rfl) NoX (fun k => (k == 1) || ((k == 3) || ((k == 5) || ((k == 6) || ((k == 12) || ((k == 13) || ((k == 14) || (k == 15)))))))) (R7b bl vs start gin gout x) (G7b w2.heap.size bl vs start gin gout x) (by kernel_rfl)
      (fun k hk => by
        simp only [Bool.or_eq_true, beq_iff_eq] at hk
        rcases hk with rfl | rfl | rfl | rfl | rfl | rfl | rfl | rfl <;> decide)
      (fun L L' u w' h hg => hg.congr (h 3 rfl) (h 5 rfl) (h 6 rfl) (h 12 rfl) (h 13 rfl) (h 14 rfl) (h 15 rfl) rfl rfl rfl rfl rfl) (fun L u a b h hx => h.ext hx) (w7Wb bl vs start gin gout x) (fun k _ => w7Wb_ok _ _ _ _ _ _ k) ⟨fun h => absurd h (by decide), fun h => absurd h (by decide), fun h => absurd h (by decide), fun h => absurd h (by decide), fun h => absurd h (by decide)⟩ ?_
    intro T hT hne2 u hu
    obtain ⟨b1, e_1⟩ := (hu 1 rfl).1 rfl
    obtain ⟨a3, c3, e_3⟩ := (hu 3 rfl).2.1 rfl
    obtain ⟨a6, c6, e_6⟩ := (hu 5 rfl).2.2.1 rfl
    obtain ⟨a7, c7, s7, d7, e_7⟩ := (hu 6 rfl).2.2.2.1 rfl
    obtain ⟨k12, e_13⟩ := (hu 12 rfl).2.2.2.2.1 rfl
    obtain ⟨k13, e_14⟩ := (hu 13 rfl).2.2.2.2.2 rfl
    unfold ExaV Tot.cells at e_7
    refine lx_next 1 (by rfl) (by decide) ?_
    dsimp only [List.take, List.drop]
    repeat (go_big_quiet_step (fail))
    refine wpQuiet_nil ?_
    refine lx_loud (by rfl) (by kernel_rfl) ?_ (fun K hK => ?_)
    · intro L w4 hL hd hcl hC hs
      obtain ⟨y, rfl⟩ := hC
      have HS := Lib.hid hs
      clear hs hd hcl hL
      go_wp2
      exact ⟨⟨fun _ => ⟨_, rfl⟩, fun h => absurd h (by decide), fun h => absurd h (by decide), fun h => absurd h (by decide), fun h => absurd h (by decide), fun h => absurd h (by decide)⟩, ⟨y.ext ((Ext.refl _).alloc _), rfl⟩, (HS.out.ext ((Ext.refl _).alloc _)).congr rfl rfl rfl rfl rfl rfl rfl rfl rfl rfl rfl rfl⟩
    rw [e_1]
    go_simp
    with_reducible refine hK _ ?_
    clear hK K
    refine lx_next 1 (by rfl) (by decide) ?_
    dsimp only [List.take, List.drop]
    repeat (go_big_quiet_step (fail))
    refine wpQuiet_nil ?_
    refine lx_loud (by rfl) (by kernel_rfl) ?_ (fun K hK => ?_)
    · intro L w4 hL hd hcl hC hs
      obtain ⟨y, rfl⟩ := hC
      have HS := Lib.hid hs
      have hyx := Lat.ext0 y
      have HYX := Lib.hid hyx
      clear hs hd hcl hL hyx
      go_wp2_with (at_builtin; refine wp_append_new rfl _ _ 25 99 _ 1 8 rfl info_bed (by kernel_rfl) rfl (by decide) ⟨b1, 0, none⟩ rfl ⟨lb, lo, none⟩ bl.length lc (bl.map (Value.int .i64)) rfl (by simp) (CellsAt.vals (OwnD.ext HOB6.out HYX.out).at0 _ rfl) (by omega) (by omega) (by omega) ?_)
      intro v' w5 hO' hx'
      have hO2 : OwnD w5 y.world.heap.size v' bl := by exact hO'
      obtain ⟨av, ac, rfl⟩ := hO2.shape
      have HO2 := Lib.hid hO2
      have HXX := Lib.hid hx'
      clear hO' hx' hO2
      go_wp2
      have h := HS.out.ext HXX.out
      exact ⟨⟨fun h => absurd h (by decide), fun _ => ⟨_, _, rfl⟩, fun h => absurd h (by decide), fun h => absurd h (by decide), fun h => absurd h (by decide), fun h => absurd h (by decide)⟩, ⟨y.ext HXX.out, rfl⟩, ⟨fun _ _ => own_mono HO2.out HYX.out.size, h.vis, h.exa, h.b12, h.b13⟩⟩
    rw [e_3]
    go_simp
    with_reducible refine hK _ ?_
    clear hK K
    refine lx_next 1 (by rfl) (by decide) ?_
    dsimp only [List.take, List.drop]
    repeat (go_big_quiet_step (fail))
    refine wpQuiet_nil ?_
    refine lx_loud (by rfl) (by kernel_rfl) ?_ (fun K hK => ?_)
    · intro L w4 hL hd hcl hC hs
      obtain ⟨y, rfl⟩ := hC
      have HS := Lib.hid hs
      have HYX := Lib.hid (Lat.ext0 y)
      clear hs hd hcl hL
      go_wp2_with fail
      refine (HCP.out _ HYX.out).mono ?_
      rintro e w5 ⟨v', rfl, hw5, hx'⟩
      obtain ⟨av, ac, rfl⟩ := hw5.shape
      have HW5 := Lib.hid hw5
      have HXX := Lib.hid hx'
      clear hw5 hx'
      go_wp2
      have h := HS.out.ext HXX.out
      exact ⟨⟨fun h => absurd h (by decide), fun h => absurd h (by decide), fun _ => ⟨_, _, rfl⟩, fun h => absurd h (by decide), fun h => absurd h (by decide), fun h => absurd h (by decide)⟩, ⟨y.ext HXX.out, rfl⟩, ⟨h.app, fun _ _ => HW5.out.mono HYX.out.size, h.exa, h.b12, h.b13⟩⟩
    rw [e_6]
    go_simp
    with_reducible refine hK _ ?_
    clear hK K
    refine lx_loud (by rfl) (by kernel_rfl) ?_ (fun K hK => ?_)
    · intro L w4 hL hd hcl hC hs
      obtain ⟨y, rfl⟩ := hC
      have h3 := hs.app (hd 3 (by kernel_rfl)) hL
      have h6 := hs.vis (hd 5 (by kernel_rfl)) hL
      rw [e_3] at h3
      rw [e_6] at h6
      have HYX := Lib.hid (Lat.ext0 y)
      have HCX := Lib.hid (HEX.out y.world a3 c3 a6 c6 h3 h6)
      have HS := Lib.hid hs
      have H16 := Lib.hid (hcl.off hL 40 15 (by kernel_rfl))
      clear hs hd hcl hL h3 h6
      go_wp2_with fail
      refine HCX.out.mono ?_
      rintro e w5 ⟨⟨l1, l2, l3, l4, rfl, m2, m3⟩, hx'⟩
      have HM2 := Lib.hid m2
      have HM3 := Lib.hid m3
      have HXX := Lib.hid hx'
      clear m2 m3 hx'
      go_wp2
      have h := HS.out.ext HXX.out
      exact ⟨⟨fun h => absurd h (by decide), fun h => absurd h (by decide), fun h => absurd h (by decide), fun _ => ⟨_, _, _, _, rfl⟩, fun h => absurd h (by decide), fun h => absurd h (by decide)⟩, ⟨y.ext HXX.out, rfl⟩, ⟨fun _ h => Bool.noConfusion (show true = false from h), fun _ h => Bool.noConfusion (show true = false from h), fun _ => ⟨_, _, _, _, rfl, own_mono HM2.out HYX.out.size, own_mono HM3.out HYX.out.size⟩, h.b12, fun e => by
        obtain ⟨k, g1, g2, g3⟩ := h.b13 e
        rw [H16.out] at g3
        refine ⟨k, g1, g2, ?_⟩
        show BlkT _ k (bif L 15 then _ else leg0C) _
        rw [H16.out]
        exact g3⟩⟩
    rw [e_7]
    go_simp
    with_reducible refine hK _ ?_
    clear hK K
    refine lx_next 5 (by rfl) (by decide) ?_
    dsimp only [List.take, List.drop]
    repeat (go_big_quiet_step (fail))
    refine wpQuiet_nil ?_
    refine lx_loud (by rfl) (by kernel_rfl) ?_ (fun K hK => ?_)
    · intro L w4 hL hd hcl hC hs
      obtain ⟨y, rfl⟩ := hC
      have HS := Lib.hid hs
      have HYX := Lib.hid (Lat.ext0 y)
      have H15 := Lib.hid (hcl.off hL 40 14 (by kernel_rfl))
      clear hs hd hcl hL
      go_wp2
      have h := HS.out.ext ((Ext.refl y.world).alloc (.cells tot0.cells 55))
      exact ⟨⟨fun h => absurd h (by decide), fun h => absurd h (by decide), fun h => absurd h (by decide), fun h => absurd h (by decide), fun _ => ⟨_, rfl⟩, fun h => absurd h (by decide)⟩, ⟨y.ext ((Ext.refl _).alloc _), rfl⟩, ⟨h.app, h.vis, h.exa, fun _ => ⟨_, rfl, HYX.out.size, by rw [show upd L 12 14 = L 14 from rfl, H15.out]; exact BlkT.new _ _ _⟩, h.b13⟩⟩
    rw [e_13]
    go_simp
    with_reducible refine hK _ ?_
    clear hK K
    refine lx_loud (by rfl) (by kernel_rfl) ?_ (fun K hK => ?_)
    · intro L w4 hL hd hcl hC hs
      obtain ⟨y, rfl⟩ := hC
      have HS := Lib.hid hs
      have HYX := Lib.hid (Lat.ext0 y)
      have H16 := Lib.hid (hcl.off hL 40 15 (by kernel_rfl))
      clear hs hd hcl hL
      go_wp2
      have h := HS.out.ext ((Ext.refl y.world).alloc (.cells leg0C 28))
      exact ⟨⟨fun h => absurd h (by decide), fun h => absurd h (by decide), fun h => absurd h (by decide), fun h => absurd h (by decide), fun h => absurd h (by decide), fun _ => ⟨_, rfl⟩⟩, ⟨y.ext ((Ext.refl _).alloc _), rfl⟩, ⟨h.app, h.vis, h.exa, h.b12, fun _ => ⟨_, rfl, HYX.out.size, by rw [show upd L 13 15 = L 15 from rfl, H16.out]; exact BlkT.new _ _ _⟩⟩⟩
    rw [e_14]
    go_simp
    with_reducible refine hK _ ?_
    clear hK K
    refine lx_loud (by rfl) (by kernel_rfl) ?_ (fun K hK => ?_)
    · intro L w4 hL hd hcl hC hs
      obtain ⟨y, rfl⟩ := hC
      have h13 := hd 12 (by kernel_rfl)
      have h7 := hd 6 (by kernel_rfl)
      obtain ⟨kk, ek, hk, hb⟩ := hs.b12 h13
      obtain rfl : k12 = kk := by rw [e_13] at ek; cases ek; rfl
      rw [hL] at hb
      have hb : BlkT y.world k12 #[.int .i64 0, .int .i64 0, .int .i64 0, .int .i64 0, .int .i64 0, .int .i64 0, .int .i64 0, .int .i64 0, .int .i64 0, .int .i64 0, .int .i64 0, .int .i64 0] 55 := hb
      have r0 := hb.blk.cell 0 (v := .int .i64 0) rfl
      have f0 := hb.blk.frozen 0
      have r1 := hb.blk.cell 1 (v := .int .i64 0) rfl
      have f1 := hb.blk.frozen 1
      have r2 := hb.blk.cell 2 (v := .int .i64 0) rfl
      have f2 := hb.blk.frozen 2
      have r3 := hb.blk.cell 3 (v := .int .i64 0) rfl
      have f3 := hb.blk.frozen 3
      have r4 := hb.blk.cell 4 (v := .int .i64 0) rfl
      have f4 := hb.blk.frozen 4
      have r5 := hb.blk.cell 5 (v := .int .i64 0) rfl
      have f5 := hb.blk.frozen 5
      have r6 := hb.blk.cell 6 (v := .int .i64 0) rfl
      have f6 := hb.blk.frozen 6
      have r7 := hb.blk.cell 7 (v := .int .i64 0) rfl
      have f7 := hb.blk.frozen 7
      have r8 := hb.blk.cell 8 (v := .int .i64 0) rfl
      have f8 := hb.blk.frozen 8
      have r9 := hb.blk.cell 9 (v := .int .i64 0) rfl
      have f9 := hb.blk.frozen 9
      have r10 := hb.blk.cell 10 (v := .int .i64 0) rfl
      have f10 := hb.blk.frozen 10
      have r11 := hb.blk.cell 11 (v := .int .i64 0) rfl
      have f11 := hb.blk.frozen 11
      have rl := hb.blk.lt
      have HS := Lib.hid hs
      have HBK := Lib.hid hb
      have HK0 := Lib.hid hk
      have H7 := Lib.hid h7
      clear hs hd hcl hb hk ek hL h7
      go_wp2
      have h7 := H7.out
      have hC := twl_chg (· = k12) y.world (b := k12) rfl (.int .i64 x.t.legs) (.int .i64 x.t.won) (.int .i64 x.t.visits) (.int .i64 x.t.points) (.int .i64 x.t.darts.lo) (.int .i64 x.t.darts.hi) (.int .i64 x.t.tried.lo) (.int .i64 x.t.tried.hi) (.int .i64 x.t.tons) (.int .i64 x.t.highs) (.int .i64 x.t.tops) (.int .i64 x.t.best)
      refine ⟨⟨fun h => absurd h (by decide), fun h => absurd h (by decide), fun h => absurd h (by decide), fun h => absurd h (by decide), fun h => absurd h (by decide), fun h => absurd h (by decide)⟩, ⟨y.chgd hC (fun b hb => .inl (by rw [show b = k12 from hb]; exact HK0.out)), rfl⟩, ⟨(fun _ h => by have h : L 6 = false := h; rw [h7] at h; cases h), (fun _ h => by have h : L 6 = false := h; rw [h7] at h; cases h), fun e => ?_, ?_, ?_⟩⟩
      · obtain ⟨l1, l2, l3, l4, m1, m2, m3⟩ := HS.out.exa e
        exact ⟨l1, l2, l3, l4, m1, own_chg m2 hC (fun q hq => own_neT m2 HBK.out (by decide) q hq), own_chg m3 hC (fun q hq => own_neT m3 HBK.out (by decide) q hq)⟩
      · intro _
        refine ⟨k12, e_13, HK0.out, ?_⟩
        show BlkT _ k12 x.t.cells 55
        exact twl_setT HBK.out (.int .i64 x.t.legs) (.int .i64 x.t.won) (.int .i64 x.t.visits) (.int .i64 x.t.points) (.int .i64 x.t.darts.lo) (.int .i64 x.t.darts.hi) (.int .i64 x.t.tried.lo) (.int .i64 x.t.tried.hi) (.int .i64 x.t.tons) (.int .i64 x.t.highs) (.int .i64 x.t.tops) (.int .i64 x.t.best)
      · intro e
        obtain ⟨kk, ek, hk, hb⟩ := HS.out.b13 e
        exact ⟨kk, ek, hk, hb.chg hC (fun h => BlkT.ne hb HBK.out (by decide) h)⟩
    go_simp
    with_reducible refine hK _ ?_
    clear hK K
    refine lx_loud (by rfl) (by kernel_rfl) ?_ (fun K hK => ?_)
    · intro L w4 hL hd hcl hC hs
      obtain ⟨y, rfl⟩ := hC
      have h14 := hd 13 (by kernel_rfl)
      have h7 := hd 6 (by kernel_rfl)
      obtain ⟨kk, ek, hk, hb⟩ := hs.b13 h14
      obtain rfl : k13 = kk := by rw [e_14] at ek; cases ek; rfl
      rw [hL] at hb
      have hb : BlkT y.world k13 #[.int .i64 0, .int .i64 0, .int .i64 0, .slice none 0 0, .slice none 0 0, .bool false] 28 := hb
      have r0 := hb.blk.cell 0 (v := .int .i64 0) rfl
      have f0 := hb.blk.frozen 0
      have r1 := hb.blk.cell 1 (v := .int .i64 0) rfl
      have f1 := hb.blk.frozen 1
      have r2 := hb.blk.cell 2 (v := .int .i64 0) rfl
      have f2 := hb.blk.frozen 2
      have r3 := hb.blk.cell 3 (v := .slice none 0 0) rfl
      have f3 := hb.blk.frozen 3
      have r4 := hb.blk.cell 4 (v := .slice none 0 0) rfl
      have f4 := hb.blk.frozen 4
      have r5 := hb.blk.cell 5 (v := .bool false) rfl
      have f5 := hb.blk.frozen 5
      have rl := hb.blk.lt
      have HS := Lib.hid hs
      have HBK := Lib.hid hb
      have HK0 := Lib.hid hk
      have H7 := Lib.hid h7
      clear hs hd hcl hb hk ek hL h7
      go_wp2
      have h7 := H7.out
      have hC := six_chgT (· = k13) y.world (b := k13) rfl (.int .i64 start) (.int .i64 gin) (.int .i64 gout) (.slice a7 bl.length c7) (.slice s7 x.scores.length d7) (.bool x.won)
      refine ⟨⟨fun h => absurd h (by decide), fun h => absurd h (by decide), fun h => absurd h (by decide), fun h => absurd h (by decide), fun h => absurd h (by decide), fun h => absurd h (by decide)⟩, ⟨y.chgd hC (fun b hb => .inl (by rw [show b = k13 from hb]; exact HK0.out)), rfl⟩, ⟨(fun _ h => by have h : L 6 = false := h; rw [h7] at h; cases h), (fun _ h => by have h : L 6 = false := h; rw [h7] at h; cases h), fun e => ?_, ?_, ?_⟩⟩
      · obtain ⟨l1, l2, l3, l4, m1, m2, m3⟩ := HS.out.exa e
        exact ⟨l1, l2, l3, l4, m1, own_chg m2 hC (fun q hq => own_neT m2 HBK.out (by decide) q hq), own_chg m3 hC (fun q hq => own_neT m3 HBK.out (by decide) q hq)⟩
      · intro e
        obtain ⟨kk, ek, hk, hb⟩ := HS.out.b12 e
        exact ⟨kk, ek, hk, hb.chg hC (fun h => BlkT.ne hb HBK.out (by decide) h)⟩
      · intro _
        refine ⟨k13, e_14, HK0.out, ?_⟩
        show BlkT _ k13 (legC7 (u 6)) 28
        rw [e_7]
        exact six_setT HBK.out (.int .i64 start) (.int .i64 gin) (.int .i64 gout) (.slice a7 bl.length c7) (.slice s7 x.scores.length d7) (.bool x.won)
    go_simp
    with_reducible refine hK _ ?_
    clear hK K
    refine lx_next 2 (by rfl) (by decide) ?_
    dsimp only [List.take, List.drop]
    repeat (go_big_quiet_step (fail))
    refine wpQuiet_nil ?_
    refine lx_nil ?_
    intro y hs
    obtain ⟨l1, l2, l3, l4, m1, m2, m3⟩ := hs.exa rfl
    rw [e_7] at m1
    obtain ⟨⟨rfl, rfl⟩, rfl, rfl⟩ : (a7 = l1 ∧ c7 = l2) ∧ s7 = l3 ∧ d7 = l4 := by unfold ExaV Tot.cells at m1; simpa using m1
    obtain ⟨kk, ek, hk12, hb12⟩ := hs.b12 rfl
    obtain rfl : k12 = kk := by rw [e_13] at ek; cases ek; rfl
    obtain ⟨kk, ek2, hk13, hb13⟩ := hs.b13 rfl
    obtain rfl : k13 = kk := by rw [e_14] at ek2; cases ek2; rfl
    have HB12 : Hid (Blk y.world k12 #[.int .i64 x.t.legs, .int .i64 x.t.won, .int .i64 x.t.visits, .int .i64 x.t.points, .int .i64 x.t.darts.lo, .int .i64 x.t.darts.hi, .int .i64 x.t.tried.lo, .int .i64 x.t.tried.hi, .int .i64 x.t.tons, .int .i64 x.t.highs, .int .i64 x.t.tops, .int .i64 x.t.best]) := Lib.hid hb12.blk
    have HB13 : Hid (Blk y.world k13 #[.int .i64 start, .int .i64 gin, .int .i64 gout, .slice a7 bl.length c7, .slice s7 x.scores.length d7, .bool x.won]) := Lib.hid (by have h := hb13.blk; rw [e_7] at h; exact h)
    have HOL : Hid (OwnD y.world w2.heap.size (.slice a7 bl.length c7) bl) := Lib.hid m2
    have HOS : Hid (OwnI y.world w2.heap.size (.slice s7 x.scores.length d7) x.scores) := Lib.hid m3
    have HX7 : Hid (Ext w2 y.world) := Lib.hid (Lat.ext0 y)
    clear hs hu hT hne2 e_1 e_3 e_6 e_7 e_13 e_14 m1 m2 m3 hb12 hb13 ek ek2 hk12 hk13
    generalize y.world = w8 at *
    clear y
    go_wp2
    go_meet
    exact ⟨k12, k13, a7, c7, s7, d7, rfl, rfl, rfl, rfl, HB12.out, HB13.out, HOS.out, HX7.out⟩
  case rest =>
  obtain ⟨k12, k13', b7, e7, t7, f7, hc1, hc2, hc3, hc4, hb12, hb13, hos, hx8⟩ := hcut
  subst hc1
  subst hc2
  subst hc3
  subst hc4
  obtain ⟨w8, rfl⟩ : ∃ y, y = wc := ⟨_, rfl⟩
  clear m0 m1 m2 ml HCP HEX HEF
  rw [HSW.out.1, HSW.out.2] at hb13
  rw [HSW.out.1] at hos
  obtain ⟨wn, hwn⟩ : ∃ y, ox.won = y := ⟨_, rfl⟩
  obtain ⟨sl, hsl⟩ : ∃ y, ox.scores.length = y := ⟨_, rfl⟩
  have HX8 := Lib.hid (HX2.out.trans hx8)
  have hg8 := HG.out.ext HX8.out
  rw [hwn, hsl] at hb13 hg8
  have HWN := Lib.hid hwn
  have HSL := Lib.hid hsl
  have HH12 := Lib.hid hb12
  have HH13 := Lib.hid hb13
  have HG8 := Lib.hid hg8
  have HOS8 := Lib.hid hos
  have hsl15 : sl ≤ 15 := by have h := HVL.out; omega
  clear hwn hsl hb12 hb13 hg8 hos hx8
  go_upto_region 13 with fail
  go_cut [115] (fun v wx => v = .bool false ∧ wx = w8)
  case first =>
    cases wn
    · have g0 := HH13.out.cell 0 (v := .int .i64 start) rfl
      have g1 := HH13.out.cell 1 (v := .int .i64 gin) rfl
      have g2 := HH13.out.cell 2 (v := .int .i64 gout) rfl
      have g3 := HH13.out.cell 3 (v := .slice b7 bl.length e7) rfl
      have g4 := HH13.out.cell 4 (v := .slice t7 sl f7) rfl
      have g5 := HH13.out.cell 5 (v := .bool false) rfl
      have gl := HH13.out.lt
      have h0 := HG8.out.cell 0 (v := .int .i64 start) rfl
      have h1 := HG8.out.cell 1 (v := .int .i64 gin) rfl
      have h2 := HG8.out.cell 2 (v := .int .i64 gout) rfl
      have h3 := HG8.out.cell 3 (v := .slice a7 bl.length c7) rfl
      have h4 := HG8.out.cell 4 (v := .slice s7 sl d7) rfl
      have h5 := HG8.out.cell 5 (v := .bool false) rfl
      have hl := HG8.out.lt
      go_wp2
      go_meet
      exact ⟨rfl, rfl⟩
    · have g0 := HH13.out.cell 0 (v := .int .i64 start) rfl
      have g1 := HH13.out.cell 1 (v := .int .i64 gin) rfl
      have g2 := HH13.out.cell 2 (v := .int .i64 gout) rfl
      have g3 := HH13.out.cell 3 (v := .slice b7 bl.length e7) rfl
      have g4 := HH13.out.cell 4 (v := .slice t7 sl f7) rfl
      have g5 := HH13.out.cell 5 (v := .bool true) rfl
      have gl := HH13.out.lt
      have h0 := HG8.out.cell 0 (v := .int .i64 start) rfl
      have h1 := HG8.out.cell 1 (v := .int .i64 gin) rfl
      have h2 := HG8.out.cell 2 (v := .int .i64 gout) rfl
      have h3 := HG8.out.cell 3 (v := .slice a7 bl.length c7) rfl
      have h4 := HG8.out.cell 4 (v := .slice s7 sl d7) rfl
      have h5 := HG8.out.cell 5 (v := .bool true) rfl
      have hl := HG8.out.lt
      go_wp2
      go_meet
      exact ⟨rfl, rfl⟩
  case rest =>
  obtain ⟨hc1, hc2⟩ := hcut
  subst hc1
  subst hc2
  rename World => w8
  have HCA := Lib.hid (BedA.ownI HOS8.out HSI.out).cells
  have HCB := Lib.hid (BedA.ownI (own_chg HOS.out (HX8.out.chg fun _ => False) fun _ _ => id) HSI.out).cells
  go_upto_block 2 with fail
  go_cut [] (fun wx => Ext w8 wx)
  case first =>
    go_wp2_with fail
    go_loopw [23] (fun i wr => ∃ j : Nat, j ≤ sl ∧ i = .int .i64 j ∧ Ext w8 wr) (fun i _ => sl - (intOf i).toNat)
    case atStart => exact ⟨0, Nat.zero_le _, rfl, Ext.refl _⟩
    case round =>
      obtain ⟨j, hj, rfl, hx⟩ := hrel
      obtain ⟨w9, rfl⟩ : ∃ y, y = wr := ⟨_, rfl⟩
      have HX9 := Lib.hid hx
      clear hx
      have h0 := (HG8.out.ext HX9.out).cell 0 (v := .int .i64 start) rfl
      have h1 := (HG8.out.ext HX9.out).cell 1 (v := .int .i64 gin) rfl
      have h2 := (HG8.out.ext HX9.out).cell 2 (v := .int .i64 gout) rfl
      have h3 := (HG8.out.ext HX9.out).cell 3 (v := .slice a7 bl.length c7) rfl
      have h4 := (HG8.out.ext HX9.out).cell 4 (v := .slice s7 sl d7) rfl
      have h5 := (HG8.out.ext HX9.out).cell 5 (v := .bool wn) rfl
      have hl := (HG8.out.ext HX9.out).lt
      by_cases hlt : j < sl
      case neg =>
        obtain rfl : j = sl := by omega
        go_wp2
        go_meet
        exact HX9.out
      case pos =>
      have hjx : j < ox.scores.length := by rw [HSL.out]; exact hlt
      obtain ⟨p1, p2, rfl, cl1⟩ := HCA.out.ext HX9.out j hjx
      obtain ⟨p3, p4, rfl, cl2⟩ := HCB.out.ext HX9.out j hjx
      obtain ⟨yy, hyy⟩ : ∃ y, ox.scores[j] = y := ⟨_, rfl⟩
      rw [hyy] at cl1 cl2
      have l1 := lt_of_cell cl1
      have l2 := lt_of_cell cl2
      simp only at l1 l2
      have CL1 := Lib.hid cl1
      have CL2 := Lib.hid cl2
      clear hyy cl1 cl2 hjx
      have hlt' : (j : Int) < (sl : Int) := by omega
      go_upto_region 18 with fail
      have m0 : ∀ y : Later w9, y.world.cell? ⟨k13, 0, none⟩ = some (.int .i64 start) := fun y => ((HG8.out.ext HX9.out).ext y.ext).cell 0 rfl
      have m1 : ∀ y : Later w9, y.world.cell? ⟨k13, 1, none⟩ = some (.int .i64 gin) := fun y => ((HG8.out.ext HX9.out).ext y.ext).cell 1 rfl
      have m2 : ∀ y : Later w9, y.world.cell? ⟨k13, 2, none⟩ = some (.int .i64 gout) := fun y => ((HG8.out.ext HX9.out).ext y.ext).cell 2 rfl
      have m3 : ∀ y : Later w9, y.world.cell? ⟨k13, 3, none⟩ = some (.slice a7 bl.length c7) := fun y => ((HG8.out.ext HX9.out).ext y.ext).cell 3 rfl
      have m4 : ∀ y : Later w9, y.world.cell? ⟨k13, 4, none⟩ = some (.slice (some ⟨p3, p4, none⟩) sl d7) := fun y => ((HG8.out.ext HX9.out).ext y.ext).cell 4 rfl
      have m5 : ∀ y : Later w9, y.world.cell? ⟨k13, 5, none⟩ = some (.bool wn) := fun y => ((HG8.out.ext HX9.out).ext y.ext).cell 5 rfl
      have ml := (HG8.out.ext HX9.out).lt
      have n0 : ∀ y : Later w9, y.world.cell? ⟨k13', 0, none⟩ = some (.int .i64 start) := fun y => ((HH13.out.ext HX9.out).ext y.ext).cell 0 rfl
      have n1 : ∀ y : Later w9, y.world.cell? ⟨k13', 1, none⟩ = some (.int .i64 gin) := fun y => ((HH13.out.ext HX9.out).ext y.ext).cell 1 rfl
      have n2 : ∀ y : Later w9, y.world.cell? ⟨k13', 2, none⟩ = some (.int .i64 gout) := fun y => ((HH13.out.ext HX9.out).ext y.ext).cell 2 rfl
      have n3 : ∀ y : Later w9, y.world.cell? ⟨k13', 3, none⟩ = some (.slice b7 bl.length e7) := fun y => ((HH13.out.ext HX9.out).ext y.ext).cell 3 rfl
      have n4 : ∀ y : Later w9, y.world.cell? ⟨k13', 4, none⟩ = some (.slice (some ⟨p1, p2, none⟩) sl f7) := fun y => ((HH13.out.ext HX9.out).ext y.ext).cell 4 rfl
      have n5 : ∀ y : Later w9, y.world.cell? ⟨k13', 5, none⟩ = some (.bool wn) := fun y => ((HH13.out.ext HX9.out).ext y.ext).cell 5 rfl
      have nl := (HH13.out.ext HX9.out).lt
      have z1 : ∀ y : Later w9, y.world.cell? ⟨p1, p2 + j, none⟩ = some (.int .i64 yy) := fun y => y.ext.cell CL1.out
      have z2 : ∀ y : Later w9, y.world.cell? ⟨p3, p4 + j, none⟩ = some (.int .i64 yy) := fun y => y.ext.cell CL2.out
      refine wp_region_later (by kernel_rfl) (by kernel_rfl) ?_
      repeat (go_big_quiet_step (fail))
      refine wpQuiet_nil ?_
      intro w10 hw10
      obtain ⟨⟨w10, hx10⟩, rfl⟩ := hw10
      have HX10 := Lib.hid (HX9.out.trans hx10)
      clear hx10
      go_wp2
      go_roundw
      case rel => exact ⟨j + 1, by omega, by go_num, HX10.out⟩
      case measure => simp [intOf]; omega
  case rest =>
  obtain ⟨w9, rfl⟩ : ∃ y, y = wc := ⟨_, rfl⟩
  have HX9 := Lib.hid (HX8.out.trans hcut)
  have HX89 := Lib.hid hcut
  clear hcut
  have HTX : Hid (TlX start gout vs.length x) := Lib.hid HDX.out.tlx
  have htb0 : TBnd 100000 (oneMore tot0) := by
    have e : (oneMore tot0).legs = 1 := by
      show wrap64 ((0 : Int) + 1) = 1
      exact wrap64_in' (show I64 ((0 : Int) + 1) from ⟨by decide, by decide⟩)
    refine ⟨⟨by rw [e]; decide, by rw [e]; decide⟩, ⟨by decide, by decide⟩, ⟨by decide, by decide⟩, ⟨by decide, by decide⟩, ⟨⟨by decide, by decide⟩, by decide, by decide⟩, ⟨by decide, by decide⟩, by decide, by decide⟩
  have hpe := HPAR.out (oneMore tot0) htb0
  have htt : legT 100 (Tld.leg bl (Tld.mk start gin gout ovs ox)) ((goT start ox.scores ox.won ox.scores.length).map (fun s => spnF (allOf gin gout bl s))) (oneMore tot0) ox.scores.length = _ := HTT.out
  have hpe' : ParE en (oneMore tot0) (legT 100 (Tld.leg bl (Tld.mk start gin gout ovs ox)) ((goT start ox.scores ox.won ox.scores.length).map (fun s => spnF (allOf gin gout bl s))) (oneMore tot0) ox.scores.length) x := hpe
  rw [htt] at hpe'
  have z1 : (oneMore tot0).darts.lo = 0 := rfl
  have z2 : (oneMore tot0).darts.hi = 0 := rfl
  have z3 : (oneMore tot0).tried.lo = 0 := rfl
  have z4 : (oneMore tot0).tried.hi = 0 := rfl
  obtain ⟨dq1, -⟩ := HTX.out.dar
  obtain ⟨tq1, -⟩ := HTX.out.tri
  obtain ⟨D, hD⟩ : ∃ y, x.t.darts.lo = y := ⟨_, rfl⟩
  obtain ⟨U, hU⟩ : ∃ y, x.t.tried.lo = y := ⟨_, rfl⟩
  have hh12 := HH12.out
  rw [dq1, tq1, hD, hU] at hh12
  unfold ParE at hpe'
  rw [z1, z2, z3, z4, hD, hU] at hpe'
  dsimp only at hpe'
  have HPE : Hid (((en : Int) = 1 → tdl = D) ∧ ((en : Int) = 2 → tdh = D) ∧ ((en : Int) = 3 → ttl = U) ∧ ((en : Int) = 4 → tth = U)) := Lib.hid (by
    obtain ⟨g1, g2, g3, g4⟩ := hpe'
    exact ⟨fun h => by have := g1 h; omega, fun h => by have := g2 h; omega, fun h => by have := g3 h; omega, fun h => by have := g4 h; omega⟩)
  have HK12 := Lib.hid hh12
  have HDU := Lib.hid (And.intro hD hU)
  clear htb0 hpe htt hpe' z1 z2 z3 z4 dq1 tq1 hD hU hh12
  have HT9 := Lib.hid (HT.out.ext HX9.out)
  have HK9 := Lib.hid (HK12.out.ext HX89.out)
  go_upto_region 20 with fail
  go_cut [166] (fun v wx => v = .bool false ∧ Ext w9 wx)
  case first =>
    have m0 : ∀ y : Later w9, y.world.cell? ⟨k12, 0, none⟩ = some (.int .i64 x.t.legs) := fun y => (HK9.out.ext y.ext).cell 0 rfl
    have m1 : ∀ y : Later w9, y.world.cell? ⟨k12, 1, none⟩ = some (.int .i64 x.t.won) := fun y => (HK9.out.ext y.ext).cell 1 rfl
    have m2 : ∀ y : Later w9, y.world.cell? ⟨k12, 2, none⟩ = some (.int .i64 x.t.visits) := fun y => (HK9.out.ext y.ext).cell 2 rfl
    have m3 : ∀ y : Later w9, y.world.cell? ⟨k12, 3, none⟩ = some (.int .i64 x.t.points) := fun y => (HK9.out.ext y.ext).cell 3 rfl
    have m4 : ∀ y : Later w9, y.world.cell? ⟨k12, 4, none⟩ = some (.int .i64 D) := fun y => (HK9.out.ext y.ext).cell 4 rfl
    have m5 : ∀ y : Later w9, y.world.cell? ⟨k12, 5, none⟩ = some (.int .i64 D) := fun y => (HK9.out.ext y.ext).cell 5 rfl
    have m6 : ∀ y : Later w9, y.world.cell? ⟨k12, 6, none⟩ = some (.int .i64 U) := fun y => (HK9.out.ext y.ext).cell 6 rfl
    have m7 : ∀ y : Later w9, y.world.cell? ⟨k12, 7, none⟩ = some (.int .i64 U) := fun y => (HK9.out.ext y.ext).cell 7 rfl
    have m8 : ∀ y : Later w9, y.world.cell? ⟨k12, 8, none⟩ = some (.int .i64 x.t.tons) := fun y => (HK9.out.ext y.ext).cell 8 rfl
    have m9 : ∀ y : Later w9, y.world.cell? ⟨k12, 9, none⟩ = some (.int .i64 x.t.highs) := fun y => (HK9.out.ext y.ext).cell 9 rfl
    have m10 : ∀ y : Later w9, y.world.cell? ⟨k12, 10, none⟩ = some (.int .i64 x.t.tops) := fun y => (HK9.out.ext y.ext).cell 10 rfl
    have m11 : ∀ y : Later w9, y.world.cell? ⟨k12, 11, none⟩ = some (.int .i64 x.t.best) := fun y => (HK9.out.ext y.ext).cell 11 rfl
    have ml := HK9.out.lt
    have n0 : ∀ y : Later w9, y.world.cell? ⟨kS, 0, none⟩ = some (.int .i64 tlg) := fun y => (HT9.out.ext y.ext).cell 0 rfl
    have n1 : ∀ y : Later w9, y.world.cell? ⟨kS, 1, none⟩ = some (.int .i64 twn) := fun y => (HT9.out.ext y.ext).cell 1 rfl
    have n2 : ∀ y : Later w9, y.world.cell? ⟨kS, 2, none⟩ = some (.int .i64 tvi) := fun y => (HT9.out.ext y.ext).cell 2 rfl
    have n3 : ∀ y : Later w9, y.world.cell? ⟨kS, 3, none⟩ = some (.int .i64 tpt) := fun y => (HT9.out.ext y.ext).cell 3 rfl
    have n4 : ∀ y : Later w9, y.world.cell? ⟨kS, 4, none⟩ = some (.int .i64 tdl) := fun y => (HT9.out.ext y.ext).cell 4 rfl
    have n5 : ∀ y : Later w9, y.world.cell? ⟨kS, 5, none⟩ = some (.int .i64 tdh) := fun y => (HT9.out.ext y.ext).cell 5 rfl
    have n6 : ∀ y : Later w9, y.world.cell? ⟨kS, 6, none⟩ = some (.int .i64 ttl) := fun y => (HT9.out.ext y.ext).cell 6 rfl
    have n7 : ∀ y : Later w9, y.world.cell? ⟨kS, 7, none⟩ = some (.int .i64 tth) := fun y => (HT9.out.ext y.ext).cell 7 rfl
    have n8 : ∀ y : Later w9, y.world.cell? ⟨kS, 8, none⟩ = some (.int .i64 tto) := fun y => (HT9.out.ext y.ext).cell 8 rfl
    have n9 : ∀ y : Later w9, y.world.cell? ⟨kS, 9, none⟩ = some (.int .i64 thi) := fun y => (HT9.out.ext y.ext).cell 9 rfl
    have n10 : ∀ y : Later w9, y.world.cell? ⟨kS, 10, none⟩ = some (.int .i64 ttp) := fun y => (HT9.out.ext y.ext).cell 10 rfl
    have n11 : ∀ y : Later w9, y.world.cell? ⟨kS, 11, none⟩ = some (.int .i64 tbe) := fun y => (HT9.out.ext y.ext).cell 11 rfl
    have nl := HT9.out.lt
    obtain rfl | rfl | rfl | rfl : en = 1 ∨ en = 2 ∨ en = 3 ∨ en = 4 := by omega
    · obtain rfl : tdl = D := HPE.out.1 rfl
      refine wp_region_later (by kernel_rfl) (by kernel_rfl) ?_
      repeat (go_big_quiet_step (fail))
      refine wpQuiet_nil ?_
      intro w11 hw11
      obtain ⟨⟨w11, hx11⟩, rfl⟩ := hw11
      go_wp2
      go_meet
      exact ⟨rfl, hx11⟩
    · obtain rfl : tdh = D := HPE.out.2.1 rfl
      refine wp_region_later (by kernel_rfl) (by kernel_rfl) ?_
      repeat (go_big_quiet_step (fail))
      refine wpQuiet_nil ?_
      intro w11 hw11
      obtain ⟨⟨w11, hx11⟩, rfl⟩ := hw11
      go_wp2
      go_meet
      exact ⟨rfl, hx11⟩
    · obtain rfl : ttl = U := HPE.out.2.2.1 rfl
      refine wp_region_later (by kernel_rfl) (by kernel_rfl) ?_
      repeat (go_big_quiet_step (fail))
      refine wpQuiet_nil ?_
      intro w11 hw11
      obtain ⟨⟨w11, hx11⟩, rfl⟩ := hw11
      go_wp2
      go_meet
      exact ⟨rfl, hx11⟩
    · obtain rfl : tth = U := HPE.out.2.2.2 rfl
      refine wp_region_later (by kernel_rfl) (by kernel_rfl) ?_
      repeat (go_big_quiet_step (fail))
      refine wpQuiet_nil ?_
      intro w11 hw11
      obtain ⟨⟨w11, hx11⟩, rfl⟩ := hw11
      go_wp2
      go_meet
      exact ⟨rfl, hx11⟩
  case rest =>
  obtain ⟨hc1, hx10⟩ := hcut
  subst hc1
  obtain ⟨w10, rfl⟩ : ∃ y, y = wc := ⟨_, rfl⟩
  have HX10 := Lib.hid (HX9.out.trans hx10)
  have HK10 := Lib.hid (HK9.out.ext hx10)
  have HA10 := Lib.hid (HA.out.ext HX10.out)
  clear hx10
  have hpq : x.t.points = tpt := by
    have hs1 := step_st HDX.out.law HRUN.out vs.length x (Nat.le_refl _) (by rw [List.take_length]; exact HRUN.out)
    have hs2 := step_st HOK.out.law HOK.out.run ovs.length ox (Nat.le_refl _) (by rw [List.take_length]; exact HOK.out.run)
    have hl2 : ovs.length = vs.length := by rw [HWL.out]; exact HOK.out.sco.1.symm
    dsimp only at hs2
    rw [hl2, ← HSW.out.1] at hs2
    rw [hs1] at hs2
    have h1 : x.left = ox.left := by injection hs2
    have h2 := HTX.out.pts
    have h3 := HOK.out.tlx.pts
    dsimp only at h3
    rw [HPT.out, h3, h2, h1]
  have hav : avgS x.t = (⟨fracS (3 * tpt) D, fracS (3 * tpt) D⟩, 0) := by
    have hd := HTX.out.dar
    have hp := HTX.out.pts
    have hb := HDX.out.bnd
    have hl := HVL2.out
    have e1 : (Tld.mk start gin gout vs x).pts = x.t.points := rfl
    have e2 : (Tld.mk start gin gout vs x).drt = x.t.darts.lo := rfl
    rw [e1, e2] at hb
    have hs : spnB x.t.darts = true := by
      unfold spnB
      rw [hd.1, decide_eq_true (Int.le_refl _), Bool.true_and]
      unfold ins out1
      simp only [List.any_cons, List.any_nil, Bool.or_false, Bool.not_eq_true', Bool.or_eq_false_iff, decide_eq_false_iff_not]
      omega
    unfold avgS
    rw [if_neg (by rw [hs, ins_one.2 ⟨by omega, by omega⟩]; decide), if_neg (by omega), hd.1, HDU.out.1, hpq]
  have hma := fun W => mean_Average x.t W
  rw [hav] at hma
  unfold Tot.agg Ran.agg at hma
  obtain ⟨dq1, -⟩ := HTX.out.dar
  obtain ⟨tq1, -⟩ := HTX.out.tri
  rw [dq1, tq1, HDU.out.1, HDU.out.2] at hma
  obtain ⟨⟨yn, yd⟩, hy⟩ : ∃ y, fracS (3 * tpt) D = y := ⟨_, rfl⟩
  rw [hy] at hma
  dsimp only at hma
  have HMA := Lib.hid hma
  have HY := Lib.hid hy
  clear hpq hav hma dq1 tq1 hy
  have t0 := HK10.out.cell 0 (v := .int .i64 x.t.legs) rfl
  have t1 := HK10.out.cell 1 (v := .int .i64 x.t.won) rfl
  have t2 := HK10.out.cell 2 (v := .int .i64 x.t.visits) rfl
  have t3 := HK10.out.cell 3 (v := .int .i64 x.t.points) rfl
  have t4 := HK10.out.cell 4 (v := .int .i64 D) rfl
  have t5 := HK10.out.cell 5 (v := .int .i64 D) rfl
  have t6 := HK10.out.cell 6 (v := .int .i64 U) rfl
  have t7 := HK10.out.cell 7 (v := .int .i64 U) rfl
  have t8 := HK10.out.cell 8 (v := .int .i64 x.t.tons) rfl
  have t9 := HK10.out.cell 9 (v := .int .i64 x.t.highs) rfl
  have t10 := HK10.out.cell 10 (v := .int .i64 x.t.tops) rfl
  have t11 := HK10.out.cell 11 (v := .int .i64 x.t.best) rfl
  have tl := HK10.out.lt
  go_wp2_with fail
  refine (HMA.out _).mono ?_
  rintro e w11 ⟨rfl, hx11⟩
  have HX11 := Lib.hid (HX10.out.trans hx11)
  have HA11 := Lib.hid (HA10.out.ext hx11)
  clear hx11
  go_upto_region 23 with fail
  generalize hw12 : World.alloc w11 _ = w12
  obtain ⟨kY, hkY⟩ : ∃ y, y = w11.heap.size := ⟨_, rfl⟩
  rw [← hkY]
  have HY12 : Hid (Blk w12 kY #[.int .i64 yn, .int .i64 yd, .int .i64 yn, .int .i64 yd]) := Lib.hid (by rw [← hw12, hkY]; exact Blk.new _ _ _)
  have HX1112 : Hid (Ext w11 w12) := Lib.hid (by rw [← hw12]; exact (Ext.refl _).alloc _)
  have HX12 := Lib.hid (HX11.out.trans HX1112.out)
  have HA12 := Lib.hid (HA11.out.ext HX1112.out)
  clear hw12 hkY HX1112
  have HE1 : Hid ((en : Int) = 1 → ah = yn ∧ ae = yd) := Lib.hid (fun h => by
    have h1 := HFR.out.2
    rw [HPE.out.1 h, HY.out] at h1
    injection h1 with h1 h2
    exact ⟨h1.symm, h2.symm⟩)
  have HE2 : Hid ((en : Int) = 2 → al = yn ∧ ad = yd) := Lib.hid (fun h => by
    have h1 := HFR.out.1
    rw [HPE.out.2.1 h, HY.out] at h1
    injection h1 with h1 h2
    exact ⟨h1.symm, h2.symm⟩)
  have hef := fun W => eqFrb 9998 yn yd yn yd W
  simp only [beq_self_eq_true, Bool.and_self, Nat.reduceAdd] at hef
  go_cut [206] (fun v wx => v = .bool false ∧ wx = w12)
  case first =>
    have y0 := HY12.out.cell 0 (v := .int .i64 yn) rfl
    have y1 := HY12.out.cell 1 (v := .int .i64 yd) rfl
    have y2 := HY12.out.cell 2 (v := .int .i64 yn) rfl
    have y3 := HY12.out.cell 3 (v := .int .i64 yd) rfl
    have yl := HY12.out.lt
    have a0 := HA12.out.cell 0 (v := .int .i64 al) rfl
    have a1 := HA12.out.cell 1 (v := .int .i64 ad) rfl
    have a2 := HA12.out.cell 2 (v := .int .i64 ah) rfl
    have a3 := HA12.out.cell 3 (v := .int .i64 ae) rfl
    have al := HA12.out.lt
    by_cases h1 : en = 1
    · obtain ⟨rfl, rfl⟩ := HE1.out (by omega)
      subst h1
      go_wp2
      go_meet
      exact ⟨rfl, rfl⟩
    · have h1' : ¬ (en : Int) = 1 := by omega
      by_cases h2 : en = 2
      · obtain ⟨rfl, rfl⟩ := HE2.out (by omega)
        subst h2
        go_wp2
        go_meet
        exact ⟨rfl, rfl⟩
      · have h2' : ¬ (en : Int) = 2 := by omega
        have h1b : ((en : Int) == 1) = false := by simpa using h1'
        have h2b : ((en : Int) == 2) = false := by simpa using h2'
        go_wp2
        go_meet
        exact ⟨rfl, rfl⟩
  case rest =>
  obtain ⟨hc1, hc2⟩ := hcut
  subst hc1
  subst hc2
  rename World => w12
  go_wp2
  exact HQ.out _ HX12.out
end Go.Proofs.Ytmopadnkjlodnaa
