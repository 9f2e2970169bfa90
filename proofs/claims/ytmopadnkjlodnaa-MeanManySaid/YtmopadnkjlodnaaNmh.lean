/-
  MeanMany, walked: from region 28 on.
-/
import Derived.Test.YtmopadnkjlodnaaNmg
import Derived.Deep.CutBlock
import Derived.Deep.DeepCutAuto
namespace Go.Proofs.Ytmopadnkjlodnaa
open Go.RowKit Go.BigFrame
attribute [local go_sem] Later.cell Later.frozen Lat.cell Lat.frozen NoX
/-- What stands behind a region. -/
def codeAfter (n : Nat) (c : Code) : Option Code := match codeFrom n c with
  | some (.seq _ b) => some b
  | _ => none
/-- What stands behind the statement that stands behind a region. -/
def codePast (n : Nat) (c : Code) : Option Code := match codeAfter n c with
  | some (.seq _ b) => some b
  | _ => none
set_option maxRecDepth 100000 in
set_option maxHeartbeats 16000000 in
theorem many_mid (c : Code) (hcd : codePast 25 (Try.f12.body.getD .skip) = some c) (HK : Hid Knows) (w w3 : World) (HX : Hid (Ext w w3)) (k18 k24 k27 k30 : Nat) (o0 o1 o2 o3 o4 o5 o6 o7 o8 o9 o10 o11 p0 p1 p2 p3 p4 p5 p6 p7 p8 p9 p10 p11 f0 f1 f2 f3 f4 f5 f6 f7 f8 f9 f10 f11 : Int)
    (HS : Hid (Blk w3 k18 #[.int .i64 (o0 + p0), .int .i64 (o1 + p1), .int .i64 (o2 + p2), .int .i64 (o3 + p3), .int .i64 (o4 + p4), .int .i64 (o5 + p5), .int .i64 (o6 + p6), .int .i64 (o7 + p7), .int .i64 (o8 + p8), .int .i64 (o9 + p9), .int .i64 (o10 + p10), .int .i64 (max o11 p11)])) (HO : Hid (Blk w3 k24 #[.int .i64 o0, .int .i64 o1, .int .i64 o2, .int .i64 o3, .int .i64 o4, .int .i64 o5, .int .i64 o6, .int .i64 o7, .int .i64 o8, .int .i64 o9, .int .i64 o10, .int .i64 o11])) (HP : Hid (Blk w3 k27 #[.int .i64 p0, .int .i64 p1, .int .i64 p2, .int .i64 p3, .int .i64 p4, .int .i64 p5, .int .i64 p6, .int .i64 p7, .int .i64 p8, .int .i64 p9, .int .i64 p10, .int .i64 p11])) (HF : Hid (Blk w3 k30 #[.int .i64 f0, .int .i64 f1, .int .i64 f2, .int .i64 f3, .int .i64 f4, .int .i64 f5, .int .i64 f6, .int .i64 f7, .int .i64 f8, .int .i64 f9, .int .i64 f10, .int .i64 f11]))
    (HM : Hid (ManyI ⟨o0 + p0, o1 + p1, o2 + p2, o3 + p3, ⟨o4 + p4, o5 + p5⟩, ⟨o6 + p6, o7 + p7⟩, o8 + p8, o9 + p9, o10 + p10, max o11 p11⟩ ⟨f0, f1, f2, f3, ⟨f4, f5⟩, ⟨f6, f7⟩, f8, f9, f10, f11⟩)) (HSO : Hid (SmT ⟨o0, o1, o2, o3, ⟨o4, o5⟩, ⟨o6, o7⟩, o8, o9, o10, o11⟩)) (HSP : Hid (SmT ⟨p0, p1, p2, p3, ⟨p4, p5⟩, ⟨p6, p7⟩, p8, p9, p10, p11⟩)) {s0 s1 s2 s3 s4 s5 s6 s7 s8 s9 s10 s11 s12 s13 s14 s15 s16 s17 s19 s20 s21 s22 s23 s25 s26 s28 s29 s31 s32 s33 s34 s35 s36 s37 s38 s39 s40 s41 s42 s43 s44 s45 s46 s47 s48 s49 s50 s51 s52 s53 s54 s55 s56 s57 s58 s59 s60 s61 s62 s63 s64 s65 s66 s67 s68 s69 s70 s71 s72 s73 s74 s75 s76 s77 s78 s79 s80 s81 s82 s83 s84 s85 s86 s87 s88 s89 s90 s91 s92 s93 s94 s95 s96 s97 s98 s99 s100 s101 s102 s103 s104 s105 s106 s107 s108 s109 s110 s111 s112 s113 s114 s115 s116 s117 s118 s119 s120 s121 s122 s123 s124 s125 s126 s127 s128 s129 s130 s131 s132 s133 s134 s135 s136 s137 s138 s139 s140 s141 s142 s143 s144 s145 s146 s147 s148 s149 s150 s151 s152 s153 s154 s155 s156 s157 s158 s159 s160 s161 s162 s163 s164 s165 s166 s167 s168 s169 s170 s171 s172 s173 s174 s175 s176 s177 s178 s179 s180 s181 s182 s183 s184 s185 s186 s187 s188 s189 s190 s191 s192 s193 s194 s195 s196 s197 s198 s199 s200 s201 s202 s203 s204 s205 s206 s207 s208 s209 s210 s211 s212 s213 s214 s215 s216 s217 s218 s219 s220 s221 s222 s223 s224 s225 s226 s227 s228 s229 s230 s231 s232 s233 s234 s235 s236 s237 s238 s239 s240 s241 s242 s243 s244 s245 s246 s247 s248 s249 s250 s251 s252 s253 s254 s255 s256 s257 s258 s259 s260 s261 s262 s263 s264 s265 s266 s267 s268 s269 s270 s271 s272 s273 s274 s275 s276 s277 s278 s279 s280 s281 s282 s283 s284 s285 s286 s287 s288 s289 s290 s291 s292 s293 s294 s295 s296 s297 s298 s299 s300 s301 s302 s303 s304 s305 s306 s307 s308 s309 s310 s311 s312 s313 s314 s315 s316 s317 s318 s319 s320 s321 s322 s323 s324 s325 s326 s327 s328 s329 s330 s331 s332 s333 s334 s335 s336 s337 s338 s339 s340 s341 s342 s343 s344 s345 s346 : Value} :
    c.wp Try.prog (bodyPost Try.prog Try.f12 fun e w' => e = .returned (.bool true) ∧ Ext w w') { tmps := #[s0, s1, s2, s3, s4, s5, s6, s7, s8, s9, s10, s11, s12, s13, s14, s15, s16, s17, .pointer (some ⟨k18, 0, none⟩), s19, s20, s21, s22, s23, .pointer (some ⟨k24, 0, none⟩), s25, s26, .pointer (some ⟨k27, 0, none⟩), s28, s29, .pointer (some ⟨k30, 0, none⟩), s31, s32, s33, s34, s35, s36, s37, s38, s39, s40, s41, s42, s43, s44, s45, s46, s47, s48, s49, s50, s51, s52, s53, s54, s55, s56, s57, s58, s59, s60, s61, s62, s63, s64, s65, s66, s67, s68, s69, s70, s71, s72, s73, s74, s75, s76, s77, s78, s79, s80, s81, s82, s83, s84, s85, s86, s87, s88, s89, s90, s91, s92, s93, s94, s95, s96, s97, s98, s99, s100, s101, s102, s103, s104, s105, s106, s107, s108, s109, s110, s111, s112, s113, s114, s115, s116, s117, s118, s119, s120, s121, s122, s123, s124, s125, s126, s127, s128, s129, s130, s131, s132, s133, s134, s135, s136, s137, s138, s139, s140, s141, s142, s143, s144, s145, s146, s147, s148, s149, s150, s151, s152, s153, s154, s155, s156, s157, s158, s159, s160, s161, s162, s163, s164, s165, s166, s167, s168, s169, s170, s171, s172, s173, s174, s175, s176, s177, s178, s179, s180, s181, s182, s183, s184, s185, s186, s187, s188, s189, s190, s191, s192, s193, s194, s195, s196, s197, s198, s199, s200, s201, s202, s203, s204, s205, s206, s207, s208, s209, s210, s211, s212, s213, s214, s215, s216, s217, s218, s219, s220, s221, s222, s223, s224, s225, s226, s227, s228, s229, s230, s231, s232, s233, s234, s235, s236, s237, s238, s239, s240, s241, s242, s243, s244, s245, s246, s247, s248, s249, s250, s251, s252, s253, s254, s255, s256, s257, s258, s259, s260, s261, s262, s263, s264, s265, s266, s267, s268, s269, s270, s271, s272, s273, s274, s275, s276, s277, s278, s279, s280, s281, s282, s283, s284, s285, s286, s287, s288, s289, s290, s291, s292, s293, s294, s295, s296, s297, s298, s299, s300, s301, s302, s303, s304, s305, s306, s307, s308, s309, s310, s311, s312, s313, s314, s315, s316, s317, s318, s319, s320, s321, s322, s323, s324, s325, s326, s327, s328, s329, s330, s331, s332, s333, s334, s335, s336, s337, s338, s339, s340, s341, s342, s343, s344, s345, s346], defers := [] } w3 := by
  simp only [Try.f12, Option.getD_some, codePast, codeAfter, codeFrom, ↓reduceIte, Nat.reduceEqDiff, Option.some.injEq] at hcd
  subst hcd
  dsimp only [List.append]
  have ca0 := HS.out.cell 0 (v := .int .i64 (o0 + p0)) rfl
  have ca1 := HS.out.cell 1 (v := .int .i64 (o1 + p1)) rfl
  have ca2 := HS.out.cell 2 (v := .int .i64 (o2 + p2)) rfl
  have ca3 := HS.out.cell 3 (v := .int .i64 (o3 + p3)) rfl
  have ca4 := HS.out.cell 4 (v := .int .i64 (o4 + p4)) rfl
  have ca5 := HS.out.cell 5 (v := .int .i64 (o5 + p5)) rfl
  have ca6 := HS.out.cell 6 (v := .int .i64 (o6 + p6)) rfl
  have ca7 := HS.out.cell 7 (v := .int .i64 (o7 + p7)) rfl
  have ca8 := HS.out.cell 8 (v := .int .i64 (o8 + p8)) rfl
  have ca9 := HS.out.cell 9 (v := .int .i64 (o9 + p9)) rfl
  have ca10 := HS.out.cell 10 (v := .int .i64 (o10 + p10)) rfl
  have ca11 := HS.out.cell 11 (v := .int .i64 (max o11 p11)) rfl
  have cal := HS.out.lt
  have cc0 := HO.out.cell 0 (v := .int .i64 o0) rfl
  have cc1 := HO.out.cell 1 (v := .int .i64 o1) rfl
  have cc2 := HO.out.cell 2 (v := .int .i64 o2) rfl
  have cc3 := HO.out.cell 3 (v := .int .i64 o3) rfl
  have cc4 := HO.out.cell 4 (v := .int .i64 o4) rfl
  have cc5 := HO.out.cell 5 (v := .int .i64 o5) rfl
  have cc6 := HO.out.cell 6 (v := .int .i64 o6) rfl
  have cc7 := HO.out.cell 7 (v := .int .i64 o7) rfl
  have cc8 := HO.out.cell 8 (v := .int .i64 o8) rfl
  have cc9 := HO.out.cell 9 (v := .int .i64 o9) rfl
  have cc10 := HO.out.cell 10 (v := .int .i64 o10) rfl
  have cc11 := HO.out.cell 11 (v := .int .i64 o11) rfl
  have ccl := HO.out.lt
  have cd0 := HP.out.cell 0 (v := .int .i64 p0) rfl
  have cd1 := HP.out.cell 1 (v := .int .i64 p1) rfl
  have cd2 := HP.out.cell 2 (v := .int .i64 p2) rfl
  have cd3 := HP.out.cell 3 (v := .int .i64 p3) rfl
  have cd4 := HP.out.cell 4 (v := .int .i64 p4) rfl
  have cd5 := HP.out.cell 5 (v := .int .i64 p5) rfl
  have cd6 := HP.out.cell 6 (v := .int .i64 p6) rfl
  have cd7 := HP.out.cell 7 (v := .int .i64 p7) rfl
  have cd8 := HP.out.cell 8 (v := .int .i64 p8) rfl
  have cd9 := HP.out.cell 9 (v := .int .i64 p9) rfl
  have cd10 := HP.out.cell 10 (v := .int .i64 p10) rfl
  have cd11 := HP.out.cell 11 (v := .int .i64 p11) rfl
  have cdl := HP.out.lt
  obtain ⟨⟨a1, a2, a3, a4, ⟨a5, a6⟩, a7, a8⟩, a9, a10, a11, a12⟩ := HSO.out
  obtain ⟨⟨b1, b2, b3, b4, ⟨b5, b6⟩, b7, b8⟩, b9, b10, b11, b12⟩ := HSP.out
  dsimp only at a1 a2 a3 a4 a5 a6 a7 a8 a9 a10 a11 a12 b1 b2 b3 b4 b5 b6 b7 b8 b9 b10 b11 b12
  have B0 : -100000 ≤ o0 + p0 ∧ o0 + p0 ≤ 100000 := by omega
  have B1 : -100000 ≤ o1 + p1 ∧ o1 + p1 ≤ 100000 := by omega
  have B2 : -100000 ≤ o2 + p2 ∧ o2 + p2 ≤ 100000 := by omega
  have B3 : -100000 ≤ o3 + p3 ∧ o3 + p3 ≤ 100000 := by omega
  have B4 : -100000 ≤ o4 + p4 ∧ o4 + p4 ≤ 100000 := by omega
  have B5 : -100000 ≤ o5 + p5 ∧ o5 + p5 ≤ 100000 := by omega
  have B7 : -100000 ≤ o7 + p7 ∧ o7 + p7 ≤ 100000 := by omega
  have B8 : -100000 ≤ o8 + p8 ∧ o8 + p8 ≤ 100000 := by omega
  clear a1 a2 a3 a4 a5 a6 a7 a8 a9 a10 a11 a12 b1 b2 b3 b4 b5 b6 b7 b8 b9 b10 b11 b12
  go_upto_region 28 with fail
  go_cut [288] (fun v wx => v = .bool false ∧ wx = w3)
  case first =>
    go_wp2
    all_goals
      go_meet
      refine ⟨?_, rfl⟩
      first
        | (rw [show max o11 p11 = p11 by omega]; simp)
        | (rw [show max o11 p11 = o11 by omega]; simp)
  case rest =>
  obtain ⟨hc1, hc2⟩ := hcut
  subst hc1
  subst hc2
  rename World => w3
  clear ca0 ca1 ca2 ca3 ca4 ca5 ca6 ca7 ca8 ca9 ca10 ca11 cal cc0 cc1 cc2 cc3 cc4 cc5 cc6 cc7 cc8 cc9 cc10 cc11 ccl cd0 cd1 cd2 cd3 cd4 cd5 cd6 cd7 cd8 cd9 cd10 cd11 cdl B0 B1 B2 B3 B4 B5 B7 B8
  have hl : f0 = o0 + p0 := HM.out.legs
  subst hl
  go_upto_if 288 with fail
  rename ∀ (a : Act) (w : World), Code.wp Try.prog _ _ a w → _ => a0
  refine wp_cond_false rfl ?_
  refine wp_skip ?_
  refine a0 _ _ ?_
  exact many_fin _ (by kernel_rfl) HK w w3 HX k18 k30 (o0 + p0) f1 f2 f3 f4 f5 f6 f7 f8 f9 f10 f11 (o1 + p1) (o2 + p2) (o3 + p3) (o4 + p4) (o5 + p5) (o6 + p6) (o7 + p7) (o8 + p8) (o9 + p9) (o10 + p10) (max o11 p11) HS HF HM
end Go.Proofs.Ytmopadnkjlodnaa
