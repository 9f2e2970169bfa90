/-
  MeanMany, walked: from region 30 on.
-/
import Derived.Test.YtmopadnkjlodnaaNma
import Derived.Test.YtmopadnkjlodnaaKns
import Derived.Deep.CutBlock
import Derived.Deep.DeepCutAuto
namespace Go.Proofs.Ytmopadnkjlodnaa
open Go.RowKit Go.BigFrame
attribute [local go_sem] Later.cell Later.frozen Lat.cell Lat.frozen NoX
set_option maxRecDepth 100000 in
set_option maxHeartbeats 16000000 in
theorem many_fin (c : Code) (hcd : codeFrom 30 (Try.f12.body.getD .skip) = some c) (HK : Hid Knows) (w w3 : World) (HX : Hid (Ext w w3)) (k18 k30 : Nat) (f0 f1 f2 f3 f4 f5 f6 f7 f8 f9 f10 f11 a1 a2 a3 a4 a5 a6 a7 a8 a9 a10 a11 : Int)
    (HS : Hid (Blk w3 k18 #[.int .i64 f0, .int .i64 a1, .int .i64 a2, .int .i64 a3, .int .i64 a4, .int .i64 a5, .int .i64 a6, .int .i64 a7, .int .i64 a8, .int .i64 a9, .int .i64 a10, .int .i64 a11])) (HF : Hid (Blk w3 k30 #[.int .i64 f0, .int .i64 f1, .int .i64 f2, .int .i64 f3, .int .i64 f4, .int .i64 f5, .int .i64 f6, .int .i64 f7, .int .i64 f8, .int .i64 f9, .int .i64 f10, .int .i64 f11])) (HM : Hid (ManyI ⟨f0, a1, a2, a3, ⟨a4, a5⟩, ⟨a6, a7⟩, a8, a9, a10, a11⟩ ⟨f0, f1, f2, f3, ⟨f4, f5⟩, ⟨f6, f7⟩, f8, f9, f10, f11⟩)) {s0 s1 s2 s3 s4 s5 s6 s7 s8 s9 s10 s11 s12 s13 s14 s15 s16 s17 s19 s20 s21 s22 s23 s24 s25 s26 s27 s28 s29 s31 s32 s33 s34 s35 s36 s37 s38 s39 s40 s41 s42 s43 s44 s45 s46 s47 s48 s49 s50 s51 s52 s53 s54 s55 s56 s57 s58 s59 s60 s61 s62 s63 s64 s65 s66 s67 s68 s69 s70 s71 s72 s73 s74 s75 s76 s77 s78 s79 s80 s81 s82 s83 s84 s85 s86 s87 s88 s89 s90 s91 s92 s93 s94 s95 s96 s97 s98 s99 s100 s101 s102 s103 s104 s105 s106 s107 s108 s109 s110 s111 s112 s113 s114 s115 s116 s117 s118 s119 s120 s121 s122 s123 s124 s125 s126 s127 s128 s129 s130 s131 s132 s133 s134 s135 s136 s137 s138 s139 s140 s141 s142 s143 s144 s145 s146 s147 s148 s149 s150 s151 s152 s153 s154 s155 s156 s157 s158 s159 s160 s161 s162 s163 s164 s165 s166 s167 s168 s169 s170 s171 s172 s173 s174 s175 s176 s177 s178 s179 s180 s181 s182 s183 s184 s185 s186 s187 s188 s189 s190 s191 s192 s193 s194 s195 s196 s197 s198 s199 s200 s201 s202 s203 s204 s205 s206 s207 s208 s209 s210 s211 s212 s213 s214 s215 s216 s217 s218 s219 s220 s221 s222 s223 s224 s225 s226 s227 s228 s229 s230 s231 s232 s233 s234 s235 s236 s237 s238 s239 s240 s241 s242 s243 s244 s245 s246 s247 s248 s249 s250 s251 s252 s253 s254 s255 s256 s257 s258 s259 s260 s261 s262 s263 s264 s265 s266 s267 s268 s269 s270 s271 s272 s273 s274 s275 s276 s277 s278 s279 s280 s281 s282 s283 s284 s285 s286 s287 s288 s289 s290 s291 s292 s293 s294 s295 s296 s297 s298 s299 s300 s301 s302 s303 s304 s305 s306 s307 s308 s309 s310 s311 s312 s313 s314 s315 s316 s317 s318 s319 s320 s321 s322 s323 s324 s325 s326 s327 s328 s329 s330 s331 s332 s333 s334 s335 s336 s337 s338 s339 s340 s341 s342 s343 s344 s345 s346 : Value} :
    c.wp Try.prog (bodyPost Try.prog Try.f12 fun e w' => e = .returned (.bool true) ∧ Ext w w') { tmps := #[s0, s1, s2, s3, s4, s5, s6, s7, s8, s9, s10, s11, s12, s13, s14, s15, s16, s17, .pointer (some ⟨k18, 0, none⟩), s19, s20, s21, s22, s23, s24, s25, s26, s27, s28, s29, .pointer (some ⟨k30, 0, none⟩), s31, s32, s33, s34, s35, s36, s37, s38, s39, s40, s41, s42, s43, s44, s45, s46, s47, s48, s49, s50, s51, s52, s53, s54, s55, s56, s57, s58, s59, s60, s61, s62, s63, s64, s65, s66, s67, s68, s69, s70, s71, s72, s73, s74, s75, s76, s77, s78, s79, s80, s81, s82, s83, s84, s85, s86, s87, s88, s89, s90, s91, s92, s93, s94, s95, s96, s97, s98, s99, s100, s101, s102, s103, s104, s105, s106, s107, s108, s109, s110, s111, s112, s113, s114, s115, s116, s117, s118, s119, s120, s121, s122, s123, s124, s125, s126, s127, s128, s129, s130, s131, s132, s133, s134, s135, s136, s137, s138, s139, s140, s141, s142, s143, s144, s145, s146, s147, s148, s149, s150, s151, s152, s153, s154, s155, s156, s157, s158, s159, s160, s161, s162, s163, s164, s165, s166, s167, s168, s169, s170, s171, s172, s173, s174, s175, s176, s177, s178, s179, s180, s181, s182, s183, s184, s185, s186, s187, s188, s189, s190, s191, s192, s193, s194, s195, s196, s197, s198, s199, s200, s201, s202, s203, s204, s205, s206, s207, s208, s209, s210, s211, s212, s213, s214, s215, s216, s217, s218, s219, s220, s221, s222, s223, s224, s225, s226, s227, s228, s229, s230, s231, s232, s233, s234, s235, s236, s237, s238, s239, s240, s241, s242, s243, s244, s245, s246, s247, s248, s249, s250, s251, s252, s253, s254, s255, s256, s257, s258, s259, s260, s261, s262, s263, s264, s265, s266, s267, s268, s269, s270, s271, s272, s273, s274, s275, s276, s277, s278, s279, s280, s281, s282, s283, s284, s285, s286, s287, s288, s289, s290, s291, s292, s293, s294, s295, s296, s297, s298, s299, s300, s301, s302, s303, s304, s305, s306, s307, s308, s309, s310, s311, s312, s313, s314, s315, s316, s317, s318, s319, s320, s321, s322, s323, s324, s325, s326, s327, s328, s329, s330, s331, s332, s333, s334, s335, s336, s337, s338, s339, s340, s341, s342, s343, s344, s345, s346], defers := [] } w3 := by
  simp only [Try.f12, Option.getD_some, codeFrom, ↓reduceIte, Nat.reduceEqDiff, Option.some.injEq] at hcd
  subst hcd
  dsimp only [List.append]
  have ca0 := HS.out.cell 0 (v := .int .i64 f0) rfl
  have ca1 := HS.out.cell 1 (v := .int .i64 a1) rfl
  have ca2 := HS.out.cell 2 (v := .int .i64 a2) rfl
  have ca3 := HS.out.cell 3 (v := .int .i64 a3) rfl
  have ca4 := HS.out.cell 4 (v := .int .i64 a4) rfl
  have ca5 := HS.out.cell 5 (v := .int .i64 a5) rfl
  have ca6 := HS.out.cell 6 (v := .int .i64 a6) rfl
  have ca7 := HS.out.cell 7 (v := .int .i64 a7) rfl
  have ca8 := HS.out.cell 8 (v := .int .i64 a8) rfl
  have ca9 := HS.out.cell 9 (v := .int .i64 a9) rfl
  have ca10 := HS.out.cell 10 (v := .int .i64 a10) rfl
  have ca11 := HS.out.cell 11 (v := .int .i64 a11) rfl
  have cal := HS.out.lt
  have ce0 := HF.out.cell 0 (v := .int .i64 f0) rfl
  have ce1 := HF.out.cell 1 (v := .int .i64 f1) rfl
  have ce2 := HF.out.cell 2 (v := .int .i64 f2) rfl
  have ce3 := HF.out.cell 3 (v := .int .i64 f3) rfl
  have ce4 := HF.out.cell 4 (v := .int .i64 f4) rfl
  have ce5 := HF.out.cell 5 (v := .int .i64 f5) rfl
  have ce6 := HF.out.cell 6 (v := .int .i64 f6) rfl
  have ce7 := HF.out.cell 7 (v := .int .i64 f7) rfl
  have ce8 := HF.out.cell 8 (v := .int .i64 f8) rfl
  have ce9 := HF.out.cell 9 (v := .int .i64 f9) rfl
  have ce10 := HF.out.cell 10 (v := .int .i64 f10) rfl
  have ce11 := HF.out.cell 11 (v := .int .i64 f11) rfl
  have cel := HF.out.lt
  obtain ⟨-, ⟨m2, m3⟩, m4, ⟨m5, m6⟩, ⟨m7, m8⟩, m9, m10⟩ := HM.out
  dsimp only at m2 m3 m4 m5 m6 m7 m8 m9 m10
  by_cases hmin : a2 ≤ 3 * f0
  · go_wp2_with fail
    refine (HK.out _).mono ?_
    rintro e wz ⟨rfl, hxz⟩
    go_wp2
    go_ret
    exact ⟨rfl, HX.out.trans hxz⟩
  · go_wp2_with fail
    refine (HK.out _).mono ?_
    rintro e wz ⟨rfl, hxz⟩
    go_wp2
    go_ret
    exact ⟨rfl, HX.out.trans hxz⟩
end Go.Proofs.Ytmopadnkjlodnaa
