/-
  MeanMany, walked: from region 19 on.
-/
import Derived.Test.YtmopadnkjlodnaaNmb
import Derived.Test.YtmopadnkjlodnaaNme
import Derived.Deep.CutBlock
import Derived.Deep.DeepCutAuto
namespace Go.Proofs.Ytmopadnkjlodnaa
open Go.RowKit Go.BigFrame
attribute [local go_sem] Later.cell Later.frozen Lat.cell Lat.frozen NoX
set_option maxRecDepth 100000 in
set_option maxHeartbeats 16000000 in
theorem many_tot (c : Code) (hcd : codeFrom 19 (Try.f12.body.getD .skip) = some c) (HK : Hid Knows) (w w3 : World) (HX : Hid (Ext w w3)) (bl : List Int) (hbl : 1 ≤ bl.length ∧ bl.length ≤ 82) (HI64 : Hid (∀ b ∈ bl, I64 b)) (ds : List Tld) (k : Nat) (hN4 : 1 ≤ k ∧ k ≤ 4) (HDK : Hid (ds.length = k)) (HD : Hid (∀ d ∈ ds, d.ok bl)) (base : Nat) (g gc : Nat) (gb : Option Addr) (gd : Nat) (gs : Option Addr) (ge : Nat)
    (HL : Hid (LgsO w3 base (.slice (some ⟨g, 0, none⟩) k gc) (ds.map (Tld.leg bl)))) (HB : Hid (LgsO w3 base (.slice gb k gd) (ds.map (Tld.leg bl)).reverse)) (HSH : Hid (LgsO w3 base (.slice gs k ge) ((ds.map (cutD bl)).map (Tld.leg bl)).reverse)) (hgc : k ≤ gc) (cut : Nat) (hcut : cut ≤ 255) {s0 s2 s3 s4 s5 s7 s8 s9 s10 s11 s12 s15 s16 s17 s18 s19 s20 s21 s22 s23 s24 s25 s26 s27 s28 s29 s30 s31 s32 s33 s34 s35 s36 s37 s38 s39 s40 s41 s42 s43 s44 s45 s46 s47 s48 s49 s50 s51 s52 s53 s54 s55 s56 s57 s58 s59 s60 s61 s62 s63 s64 s65 s66 s67 s68 s69 s70 s71 s72 s73 s74 s75 s76 s77 s78 s79 s80 s81 s82 s83 s84 s85 s86 s87 s88 s89 s90 s91 s92 s93 s94 s95 s96 s97 s98 s99 s100 s101 s102 s103 s104 s105 s106 s107 s108 s109 s110 s111 s112 s113 s114 s115 s116 s117 s118 s119 s120 s121 s122 s123 s124 s125 s126 s127 s128 s129 s130 s131 s132 s133 s134 s135 s136 s137 s138 s139 s140 s141 s142 s143 s144 s145 s146 s147 s148 s149 s150 s151 s152 s153 s154 s155 s156 s157 s158 s159 s160 s161 s162 s163 s164 s165 s166 s167 s168 s169 s170 s171 s172 s173 s174 s175 s176 s177 s178 s179 s180 s181 s182 s183 s184 s185 s186 s187 s188 s189 s190 s191 s192 s193 s194 s195 s196 s197 s198 s199 s200 s201 s202 s203 s204 s205 s206 s207 s208 s209 s210 s211 s212 s213 s214 s215 s216 s217 s218 s219 s220 s221 s222 s223 s224 s225 s226 s227 s228 s229 s230 s231 s232 s233 s234 s235 s236 s237 s238 s239 s240 s241 s242 s243 s244 s245 s246 s247 s248 s249 s250 s251 s252 s253 s254 s255 s256 s257 s258 s259 s260 s261 s262 s263 s264 s265 s266 s267 s268 s269 s270 s271 s272 s273 s274 s275 s276 s277 s278 s279 s280 s281 s282 s283 s284 s285 s286 s287 s288 s289 s290 s291 s292 s293 s294 s295 s296 s297 s298 s299 s300 s301 s302 s303 s304 s305 s306 s307 s308 s309 s310 s311 s312 s313 s314 s315 s316 s317 s318 s319 s320 s321 s322 s323 s324 s325 s326 s327 s328 s329 s330 s331 s332 s333 s334 s335 s336 s337 s338 s339 s340 s341 s342 s343 s344 s345 s346 : Value} :
    c.wp Try.prog (bodyPost Try.prog Try.f12 fun e w' => e = .returned (.bool true) ∧ Ext w w') { tmps := #[s0, .int .u8 cut, s2, s3, s4, s5, .slice (some ⟨g, 0, none⟩) k gc, s7, s8, s9, s10, s11, s12, .slice gb k gd, .slice gs k ge, s15, s16, s17, s18, s19, s20, s21, s22, s23, s24, s25, s26, s27, s28, s29, s30, s31, s32, s33, s34, s35, s36, s37, s38, s39, s40, s41, s42, s43, s44, s45, s46, s47, s48, s49, s50, s51, s52, s53, s54, s55, s56, s57, s58, s59, s60, s61, s62, s63, s64, s65, s66, s67, s68, s69, s70, s71, s72, s73, s74, s75, s76, s77, s78, s79, s80, s81, s82, s83, s84, s85, s86, s87, s88, s89, s90, s91, s92, s93, s94, s95, s96, s97, s98, s99, s100, s101, s102, s103, s104, s105, s106, s107, s108, s109, s110, s111, s112, s113, s114, s115, s116, s117, s118, s119, s120, s121, s122, s123, s124, s125, s126, s127, s128, s129, s130, s131, s132, s133, s134, s135, s136, s137, s138, s139, s140, s141, s142, s143, s144, s145, s146, s147, s148, s149, s150, s151, s152, s153, s154, s155, s156, s157, s158, s159, s160, s161, s162, s163, s164, s165, s166, s167, s168, s169, s170, s171, s172, s173, s174, s175, s176, s177, s178, s179, s180, s181, s182, s183, s184, s185, s186, s187, s188, s189, s190, s191, s192, s193, s194, s195, s196, s197, s198, s199, s200, s201, s202, s203, s204, s205, s206, s207, s208, s209, s210, s211, s212, s213, s214, s215, s216, s217, s218, s219, s220, s221, s222, s223, s224, s225, s226, s227, s228, s229, s230, s231, s232, s233, s234, s235, s236, s237, s238, s239, s240, s241, s242, s243, s244, s245, s246, s247, s248, s249, s250, s251, s252, s253, s254, s255, s256, s257, s258, s259, s260, s261, s262, s263, s264, s265, s266, s267, s268, s269, s270, s271, s272, s273, s274, s275, s276, s277, s278, s279, s280, s281, s282, s283, s284, s285, s286, s287, s288, s289, s290, s291, s292, s293, s294, s295, s296, s297, s298, s299, s300, s301, s302, s303, s304, s305, s306, s307, s308, s309, s310, s311, s312, s313, s314, s315, s316, s317, s318, s319, s320, s321, s322, s323, s324, s325, s326, s327, s328, s329, s330, s331, s332, s333, s334, s335, s336, s337, s338, s339, s340, s341, s342, s343, s344, s345, s346], defers := [] } w3 := by
  simp only [Try.f12, Option.getD_some, codeFrom, ↓reduceIte, Nat.reduceEqDiff, Option.some.injEq] at hcd
  subst hcd
  dsimp only [List.append]
  obtain ⟨q, hq⟩ : ∃ q, q = cut % (k + 1) := ⟨_, rfl⟩
  have hqk : q ≤ k := by have := Nat.mod_lt cut (show 0 < k + 1 by omega); omega
  have HQ := Lib.hid hq
  clear hq
  have hI : ∀ d : Tld, d.ok bl → ∀ l : Leg, l = d.leg bl → (∀ x ∈ l.beds, I64 x) ∧ (∀ x ∈ l.scores, I64 x) ∧ I64 l.start := fun d h l hl => by
    subst hl
    have hs : 2 ≤ d.start ∧ d.start ≤ 1001 := by have := cntB_start (laws_cnt h.law).1; omega
    exact ⟨HI64.out, h.sco.2, ⟨by show _ ≤ d.start; omega, by show d.start ≤ _; omega⟩⟩
  have hZ : ∀ d : Tld, d.ok bl → ∀ l : Leg, l = d.leg bl → l.beds.length ≤ 1000 ∧ l.scores.length ≤ 1000 := fun d h l hl => by
    subst hl
    refine ⟨by show bl.length ≤ 1000; omega, ?_⟩
    show d.x.scores.length ≤ 1000
    rw [h.sco.1]
    have := h.len
    omega
  have hall : ∀ l : Leg, l ∈ (ds.map (Tld.leg bl)) ++ ((ds.map (cutD bl)).map (Tld.leg bl)).reverse → ∃ d : Tld, d.ok bl ∧ l = d.leg bl := fun l hl => by
    rcases List.mem_append.1 hl with h | h
    · obtain ⟨d, hd, rfl⟩ := List.mem_map.1 h
      exact ⟨d, HD.out d hd, rfl⟩
    · obtain ⟨d, hd, rfl⟩ := List.mem_map.1 (List.mem_reverse.1 h)
      obtain ⟨e, he, rfl⟩ := List.mem_map.1 hd
      exact ⟨_, (cut_is (HD.out e he)).ok, rfl⟩
  have HIS : Hid (∀ l ∈ (ds.map (Tld.leg bl)) ++ ((ds.map (cutD bl)).map (Tld.leg bl)).reverse, (∀ x ∈ l.beds, I64 x) ∧ (∀ x ∈ l.scores, I64 x) ∧ I64 l.start) := Lib.hid (fun l hl => by
    obtain ⟨d, h1, h2⟩ := hall l hl
    exact hI d h1 l h2)
  have HZ : Hid (∀ l ∈ (ds.map (Tld.leg bl)) ++ ((ds.map (cutD bl)).map (Tld.leg bl)).reverse, l.beds.length ≤ 1000 ∧ l.scores.length ≤ 1000) := Lib.hid (fun l hl => by
    obtain ⟨d, h1, h2⟩ := hall l hl
    exact hZ d h1 l h2)
  have HLA : Hid (LgsA w3 (some ⟨g, 0, none⟩) (ds.map (Tld.leg bl))) := Lib.hid (HL.out.legsA (fun l hl => HIS.out l (List.mem_append_left _ hl)))
  have HBA : Hid (LgsA w3 gb ((ds.map (Tld.leg bl)).reverse)) := Lib.hid (HB.out.legsA (fun l hl => HIS.out l (List.mem_append_left _ (List.mem_reverse.1 hl))))
  have HSA : Hid (LgsA w3 gs (((ds.map (cutD bl)).map (Tld.leg bl)).reverse)) := Lib.hid (HSH.out.legsA (fun l hl => HIS.out l (List.mem_append_right _ hl)))
  have HN0 : Hid (((ds.map (Tld.leg bl))).length = k) := Lib.hid (by rw [List.length_map, HDK.out])
  have HN1 : Hid (((ds.map (Tld.leg bl)).reverse).length = k) := Lib.hid (by rw [List.length_reverse, List.length_map, HDK.out])
  have HN2 : Hid (((ds.map (Tld.leg bl)).take q).length = q) := Lib.hid (by rw [List.length_take, List.length_map, HDK.out]; omega)
  have HN3 : Hid (((ds.map (Tld.leg bl)).drop q).length = k - q) := Lib.hid (by rw [List.length_drop, List.length_map, HDK.out])
  have HN4 := HN0
  have HN5 : Hid ((((ds.map (cutD bl)).map (Tld.leg bl)).reverse).length = k) := Lib.hid (by rw [List.length_reverse, List.length_map, List.length_map, HDK.out])
  have HMEM0 : Hid (∀ l ∈ (ds.map (Tld.leg bl)), l ∈ (ds.map (Tld.leg bl)) ++ ((ds.map (cutD bl)).map (Tld.leg bl)).reverse) := Lib.hid (fun l hl => List.mem_append_left _ hl)
  have HMEM1 : Hid (∀ l ∈ (ds.map (Tld.leg bl)).reverse, l ∈ (ds.map (Tld.leg bl)) ++ ((ds.map (cutD bl)).map (Tld.leg bl)).reverse) := Lib.hid (fun l hl => List.mem_append_left _ (List.mem_reverse.1 hl))
  have HMEM2 : Hid (∀ l ∈ (ds.map (Tld.leg bl)).take q, l ∈ (ds.map (Tld.leg bl)) ++ ((ds.map (cutD bl)).map (Tld.leg bl)).reverse) := Lib.hid (fun l hl => List.mem_append_left _ (List.mem_of_mem_take hl))
  have HMEM3 : Hid (∀ l ∈ (ds.map (Tld.leg bl)).drop q, l ∈ (ds.map (Tld.leg bl)) ++ ((ds.map (cutD bl)).map (Tld.leg bl)).reverse) := Lib.hid (fun l hl => List.mem_append_left _ (List.mem_of_mem_drop hl))
  have HMEM4 := HMEM0
  have HMEM5 : Hid (∀ l ∈ ((ds.map (cutD bl)).map (Tld.leg bl)).reverse, l ∈ (ds.map (Tld.leg bl)) ++ ((ds.map (cutD bl)).map (Tld.leg bl)).reverse) := Lib.hid (fun l hl => List.mem_append_right _ hl)
  obtain ⟨⟨o0, o1, o2, o3, ⟨o4, o5⟩, ⟨o6, o7⟩, o8, o9, o10, o11⟩, ⟨p0, p1, p2, p3, ⟨p4, p5⟩, ⟨p6, p7⟩, p8, p9, p10, p11⟩, ⟨f0, f1, f2, f3, ⟨f4, f5⟩, ⟨f6, f7⟩, f8, f9, f10, f11⟩, h1, h2, h3, h4, h5, h6, hM, hSO, hSP⟩ := many_is HD.out (by rw [HDK.out]; omega) q
  have HOF := Lib.hid (And.intro h1 (And.intro h2 (And.intro h3 (And.intro h4 (And.intro h5 (And.intro h6 True.intro))))))
  have HM := Lib.hid hM
  have HSO := Lib.hid hSO
  have HSP := Lib.hid hSP
  clear hI hZ hall h1 h2 h3 h4 h5 h6 hM hSO hSP HL HB HSH
  obtain ⟨u0, hu0⟩ : ∃ y, y = w3 := ⟨_, rfl⟩
  have HX0 : Hid (Ext w3 u0) := Lib.hid (by rw [hu0]; exact Ext.refl _)
  rw [← hu0]
  clear hu0
  go_upto_region 20 with fail
  have hcq : (cut : Int) % ((k : Int) + 1) = (q : Int) := by
    rw [HQ.out]
    push_cast
    rfl
  rw [hcq]
  clear hcq
  have hlg0 := law_legs ((ds.map (Tld.leg bl))) (some ⟨g, 0, none⟩) (gc) u0 (HLA.out.ext HX0.out) (by rw [HN0.out]; omega) (fun l hl => HZ.out l (HMEM0.out l hl))
  rw [HN0.out] at hlg0
  have HLG0 := Lib.hid hlg0
  clear hlg0
  go_wp2_with fail
  refine HLG0.out.mono ?_
  rintro e x0 ⟨v0, rfl, hl0, hx0⟩
  obtain ⟨la0, lc0, rfl⟩ := hl0.shape
  have hmt0 := mean_Totals ((ds.map (Tld.leg bl))) la0 lc0 x0 (hl0.legs (fun l hl => HIS.out l (HMEM0.out l hl))) (by rw [HN0.out]; omega)
  rw [HOF.out.1, HN0.out] at hmt0
  unfold Tot.cells plT at hmt0
  dsimp only at hmt0
  rw [HN0.out]
  have HMT0 := Lib.hid hmt0
  have HZ0 := Lib.hid hx0
  clear hl0 hmt0 hx0 HLG0
  go_wp2_with fail
  refine HMT0.out.mono ?_
  rintro e y0 ⟨rfl, hy0⟩
  have HYY0 := Lib.hid (HZ0.out.trans hy0)
  clear hy0 HMT0 HZ0
  go_upto_region 21 with fail
  generalize hz0 : World.alloc y0 _ = u1
  obtain ⟨k18, hk18⟩ : ∃ y, y = y0.heap.size := ⟨_, rfl⟩
  rw [← hk18]
  have HB0_1 : Hid (Blk u1 k18 #[.int .i64 (o0 + p0), .int .i64 (o1 + p1), .int .i64 (o2 + p2), .int .i64 (o3 + p3), .int .i64 (o4 + p4), .int .i64 (o5 + p5), .int .i64 (o6 + p6), .int .i64 (o7 + p7), .int .i64 (o8 + p8), .int .i64 (o9 + p9), .int .i64 (o10 + p10), .int .i64 (max o11 p11)]) := Lib.hid (by rw [← hz0, hk18]; exact Blk.new _ _ _)
  have HY0 : Hid (Ext u0 u1) := Lib.hid (by rw [← hz0]; exact HYY0.out.alloc _)
  have HX1 := Lib.hid (HX0.out.trans HY0.out)
  clear hz0 hk18 HYY0
  have hlg1 := law_legs ((ds.map (Tld.leg bl)).reverse) (gb) (gd) u1 (HBA.out.ext HX1.out) (by rw [HN1.out]; omega) (fun l hl => HZ.out l (HMEM1.out l hl))
  rw [HN1.out] at hlg1
  have HLG1 := Lib.hid hlg1
  clear hlg1
  go_wp2_with fail
  refine HLG1.out.mono ?_
  rintro e x1 ⟨v1, rfl, hl1, hx1⟩
  obtain ⟨la1, lc1, rfl⟩ := hl1.shape
  have hmt1 := mean_Totals ((ds.map (Tld.leg bl)).reverse) la1 lc1 x1 (hl1.legs (fun l hl => HIS.out l (HMEM1.out l hl))) (by rw [HN1.out]; omega)
  rw [HOF.out.2.1, HN1.out] at hmt1
  unfold Tot.cells plT at hmt1
  dsimp only at hmt1
  rw [HN1.out]
  have HMT1 := Lib.hid hmt1
  have HZ1 := Lib.hid hx1
  clear hl1 hmt1 hx1 HLG1
  go_wp2_with fail
  refine HMT1.out.mono ?_
  rintro e y1 ⟨rfl, hy1⟩
  have HYY1 := Lib.hid (HZ1.out.trans hy1)
  clear hy1 HMT1 HZ1
  go_upto_region 22 with fail
  generalize hz1 : World.alloc y1 _ = u2
  obtain ⟨k21, hk21⟩ : ∃ y, y = y1.heap.size := ⟨_, rfl⟩
  rw [← hk21]
  have HB1_2 : Hid (Blk u2 k21 #[.int .i64 (o0 + p0), .int .i64 (o1 + p1), .int .i64 (o2 + p2), .int .i64 (o3 + p3), .int .i64 (o4 + p4), .int .i64 (o5 + p5), .int .i64 (o6 + p6), .int .i64 (o7 + p7), .int .i64 (o8 + p8), .int .i64 (o9 + p9), .int .i64 (o10 + p10), .int .i64 (max o11 p11)]) := Lib.hid (by rw [← hz1, hk21]; exact Blk.new _ _ _)
  have HY1 : Hid (Ext u1 u2) := Lib.hid (by rw [← hz1]; exact HYY1.out.alloc _)
  have HX2 := Lib.hid (HX1.out.trans HY1.out)
  clear hz1 hk21 HYY1
  have HB0_2 := Lib.hid (HB0_1.out.ext HY1.out)
  have hlg2 := law_legs ((ds.map (Tld.leg bl)).take q) (some ⟨g, 0, none⟩) (gc) u2 ((HLA.out.ext HX2.out).take q) (by rw [HN2.out]; omega) (fun l hl => HZ.out l (HMEM2.out l hl))
  rw [HN2.out] at hlg2
  have HLG2 := Lib.hid hlg2
  clear hlg2
  go_wp2_with fail
  refine HLG2.out.mono ?_
  rintro e x2 ⟨v2, rfl, hl2, hx2⟩
  obtain ⟨la2, lc2, rfl⟩ := hl2.shape
  have hmt2 := mean_Totals ((ds.map (Tld.leg bl)).take q) la2 lc2 x2 (hl2.legs (fun l hl => HIS.out l (HMEM2.out l hl))) (by rw [HN2.out]; omega)
  rw [HOF.out.2.2.1, HN2.out] at hmt2
  unfold Tot.cells at hmt2
  dsimp only at hmt2
  rw [HN2.out]
  have HMT2 := Lib.hid hmt2
  have HZ2 := Lib.hid hx2
  clear hl2 hmt2 hx2 HLG2
  go_wp2_with fail
  refine HMT2.out.mono ?_
  rintro e y2 ⟨rfl, hy2⟩
  have HYY2 := Lib.hid (HZ2.out.trans hy2)
  clear hy2 HMT2 HZ2
  go_upto_region 23 with fail
  generalize hz2 : World.alloc y2 _ = u3
  obtain ⟨k24, hk24⟩ : ∃ y, y = y2.heap.size := ⟨_, rfl⟩
  rw [← hk24]
  have HB2_3 : Hid (Blk u3 k24 #[.int .i64 o0, .int .i64 o1, .int .i64 o2, .int .i64 o3, .int .i64 o4, .int .i64 o5, .int .i64 o6, .int .i64 o7, .int .i64 o8, .int .i64 o9, .int .i64 o10, .int .i64 o11]) := Lib.hid (by rw [← hz2, hk24]; exact Blk.new _ _ _)
  have HY2 : Hid (Ext u2 u3) := Lib.hid (by rw [← hz2]; exact HYY2.out.alloc _)
  have HX3 := Lib.hid (HX2.out.trans HY2.out)
  clear hz2 hk24 HYY2
  have HB0_3 := Lib.hid (HB0_2.out.ext HY2.out)
  have HB1_3 := Lib.hid (HB1_2.out.ext HY2.out)
  by_cases hgq : gc = q
  · obtain rfl : q = gc := hgq.symm
    have hk0 : k - q = 0 := by omega
    rw [hk0] at HN3
    clear hk0
    have hz : ∀ b, LgsA u3 b ((ds.map (Tld.leg bl)).drop q) := fun b i hi => absurd hi (by rw [HN3.out]; omega)
    have hlg3 := law_legs ((ds.map (Tld.leg bl)).drop q) (some ⟨g, 0, none⟩) (0) u3 (hz _) (by rw [HN3.out]; omega) (fun l hl => HZ.out l (HMEM3.out l hl))
    rw [HN3.out] at hlg3
    have HLG3 := Lib.hid hlg3
    clear hlg3
    go_wp2_with fail
    refine HLG3.out.mono ?_
    rintro e x3 ⟨v3, rfl, hl3, hx3⟩
    obtain ⟨la3, lc3, rfl⟩ := hl3.shape
    have hmt3 := mean_Totals ((ds.map (Tld.leg bl)).drop q) la3 lc3 x3 (hl3.legs (fun l hl => HIS.out l (HMEM3.out l hl))) (by rw [HN3.out]; omega)
    rw [HOF.out.2.2.2.1, HN3.out] at hmt3
    unfold Tot.cells at hmt3
    dsimp only at hmt3
    rw [HN3.out]
    have HMT3 := Lib.hid hmt3
    have HZ3 := Lib.hid hx3
    clear hl3 hmt3 hx3 HLG3
    go_wp2_with fail
    refine HMT3.out.mono ?_
    rintro e y3 ⟨rfl, hy3⟩
    have HYY3 := Lib.hid (HZ3.out.trans hy3)
    clear hy3 HMT3 HZ3
    go_upto_region 24 with fail
    generalize hz3 : World.alloc y3 _ = u4
    obtain ⟨k27, hk27⟩ : ∃ y, y = y3.heap.size := ⟨_, rfl⟩
    rw [← hk27]
    have HB3_4 : Hid (Blk u4 k27 #[.int .i64 p0, .int .i64 p1, .int .i64 p2, .int .i64 p3, .int .i64 p4, .int .i64 p5, .int .i64 p6, .int .i64 p7, .int .i64 p8, .int .i64 p9, .int .i64 p10, .int .i64 p11]) := Lib.hid (by rw [← hz3, hk27]; exact Blk.new _ _ _)
    have HY3 : Hid (Ext u3 u4) := Lib.hid (by rw [← hz3]; exact HYY3.out.alloc _)
    have HX4 := Lib.hid (HX3.out.trans HY3.out)
    clear hz3 hk27 HYY3
    have HB0_4 := Lib.hid (HB0_3.out.ext HY3.out)
    have HB1_4 := Lib.hid (HB1_3.out.ext HY3.out)
    have HB2_4 := Lib.hid (HB2_3.out.ext HY3.out)
    have hlg4 := law_legs ((ds.map (Tld.leg bl))) (some ⟨g, 0, none⟩) (q) u4 (HLA.out.ext HX4.out) (by rw [HN4.out]; omega) (fun l hl => HZ.out l (HMEM4.out l hl))
    rw [HN4.out] at hlg4
    have HLG4 := Lib.hid hlg4
    clear hlg4
    go_wp2_with fail
    refine HLG4.out.mono ?_
    rintro e x4 ⟨v4, rfl, hl4, hx4⟩
    obtain ⟨la4, lc4, rfl⟩ := hl4.shape
    have hmt4 := mean_First ((ds.map (Tld.leg bl))) la4 lc4 x4 (hl4.legs (fun l hl => HIS.out l (HMEM4.out l hl))) (by rw [HN4.out]; omega)
    rw [HOF.out.2.2.2.2.1, HN4.out] at hmt4
    unfold Tot.cells at hmt4
    dsimp only at hmt4
    rw [HN4.out]
    have HMT4 := Lib.hid hmt4
    have HZ4 := Lib.hid hx4
    clear hl4 hmt4 hx4 HLG4
    go_wp2_with fail
    refine HMT4.out.mono ?_
    rintro e y4 ⟨rfl, hy4⟩
    have HYY4 := Lib.hid (HZ4.out.trans hy4)
    clear hy4 HMT4 HZ4
    go_upto_region 25 with fail
    generalize hz4 : World.alloc y4 _ = u5
    obtain ⟨k30, hk30⟩ : ∃ y, y = y4.heap.size := ⟨_, rfl⟩
    rw [← hk30]
    have HB4_5 : Hid (Blk u5 k30 #[.int .i64 f0, .int .i64 f1, .int .i64 f2, .int .i64 f3, .int .i64 f4, .int .i64 f5, .int .i64 f6, .int .i64 f7, .int .i64 f8, .int .i64 f9, .int .i64 f10, .int .i64 f11]) := Lib.hid (by rw [← hz4, hk30]; exact Blk.new _ _ _)
    have HY4 : Hid (Ext u4 u5) := Lib.hid (by rw [← hz4]; exact HYY4.out.alloc _)
    have HX5 := Lib.hid (HX4.out.trans HY4.out)
    clear hz4 hk30 HYY4
    have HB0_5 := Lib.hid (HB0_4.out.ext HY4.out)
    have HB1_5 := Lib.hid (HB1_4.out.ext HY4.out)
    have HB2_5 := Lib.hid (HB2_4.out.ext HY4.out)
    have HB3_5 := Lib.hid (HB3_4.out.ext HY4.out)
    have hlg5 := law_legs (((ds.map (cutD bl)).map (Tld.leg bl)).reverse) (gs) (ge) u5 (HSA.out.ext HX5.out) (by rw [HN5.out]; omega) (fun l hl => HZ.out l (HMEM5.out l hl))
    rw [HN5.out] at hlg5
    have HLG5 := Lib.hid hlg5
    clear hlg5
    go_wp2_with fail
    refine HLG5.out.mono ?_
    rintro e x5 ⟨v5, rfl, hl5, hx5⟩
    obtain ⟨la5, lc5, rfl⟩ := hl5.shape
    have hmt5 := mean_Totals (((ds.map (cutD bl)).map (Tld.leg bl)).reverse) la5 lc5 x5 (hl5.legs (fun l hl => HIS.out l (HMEM5.out l hl))) (by rw [HN5.out]; omega)
    rw [HOF.out.2.2.2.2.2.1, HN5.out] at hmt5
    unfold Tot.cells at hmt5
    dsimp only at hmt5
    rw [HN5.out]
    have HMT5 := Lib.hid hmt5
    have HZ5 := Lib.hid hx5
    clear hl5 hmt5 hx5 HLG5
    go_wp2_with fail
    refine HMT5.out.mono ?_
    rintro e y5 ⟨rfl, hy5⟩
    have HYY5 := Lib.hid (HZ5.out.trans hy5)
    clear hy5 HMT5 HZ5
    rename ∀ (a : Act) (w : World), Code.wp Try.prog _ _ a w → _ => a0
    have A0 := Lib.hid a0
    clear a0
    go_wp2
    generalize hz5 : World.alloc y5 _ = u6
    obtain ⟨k33, hk33⟩ : ∃ y, y = y5.heap.size := ⟨_, rfl⟩
    rw [← hk33]
    have HB5_6 : Hid (Blk u6 k33 #[.int .i64 f0, .int .i64 f1, .int .i64 f2, .int .i64 f3, .int .i64 f4, .int .i64 f5, .int .i64 f6, .int .i64 f7, .int .i64 f8, .int .i64 f9, .int .i64 f10, .int .i64 f11]) := Lib.hid (by rw [← hz5, hk33]; exact Blk.new _ _ _)
    have HY5 : Hid (Ext u5 u6) := Lib.hid (by rw [← hz5]; exact HYY5.out.alloc _)
    have HX6 := Lib.hid (HX5.out.trans HY5.out)
    clear hz5 hk33 HYY5
    have HB0_6 := Lib.hid (HB0_5.out.ext HY5.out)
    have HB1_6 := Lib.hid (HB1_5.out.ext HY5.out)
    have HB2_6 := Lib.hid (HB2_5.out.ext HY5.out)
    have HB3_6 := Lib.hid (HB3_5.out.ext HY5.out)
    have HB4_6 := Lib.hid (HB4_5.out.ext HY5.out)
    refine A0.out _ _ ?_
    exact many_last _ (by kernel_rfl) HK w u6 (Lib.hid (HX.out.trans HX6.out)) k18 k21 k24 k27 k30 k33 o0 o1 o2 o3 o4 o5 o6 o7 o8 o9 o10 o11 p0 p1 p2 p3 p4 p5 p6 p7 p8 p9 p10 p11 f0 f1 f2 f3 f4 f5 f6 f7 f8 f9 f10 f11 HB0_6 HB1_6 HB2_6 HB3_6 HB4_6 HB5_6 HM HSO HSP
  · have hlg3 := law_legs ((ds.map (Tld.leg bl)).drop q) (some ⟨g, q * 6, none⟩) ((gc - q)) u3 ((HLA.out.ext HX3.out).drop q) (by rw [HN3.out]; omega) (fun l hl => HZ.out l (HMEM3.out l hl))
    rw [HN3.out] at hlg3
    have HLG3 := Lib.hid hlg3
    clear hlg3
    go_wp2_with fail
    refine HLG3.out.mono ?_
    rintro e x3 ⟨v3, rfl, hl3, hx3⟩
    obtain ⟨la3, lc3, rfl⟩ := hl3.shape
    have hmt3 := mean_Totals ((ds.map (Tld.leg bl)).drop q) la3 lc3 x3 (hl3.legs (fun l hl => HIS.out l (HMEM3.out l hl))) (by rw [HN3.out]; omega)
    rw [HOF.out.2.2.2.1, HN3.out] at hmt3
    unfold Tot.cells at hmt3
    dsimp only at hmt3
    rw [HN3.out]
    have HMT3 := Lib.hid hmt3
    have HZ3 := Lib.hid hx3
    clear hl3 hmt3 hx3 HLG3
    go_wp2_with fail
    refine HMT3.out.mono ?_
    rintro e y3 ⟨rfl, hy3⟩
    have HYY3 := Lib.hid (HZ3.out.trans hy3)
    clear hy3 HMT3 HZ3
    go_upto_region 24 with fail
    generalize hz3 : World.alloc y3 _ = u4
    obtain ⟨k27, hk27⟩ : ∃ y, y = y3.heap.size := ⟨_, rfl⟩
    rw [← hk27]
    have HB3_4 : Hid (Blk u4 k27 #[.int .i64 p0, .int .i64 p1, .int .i64 p2, .int .i64 p3, .int .i64 p4, .int .i64 p5, .int .i64 p6, .int .i64 p7, .int .i64 p8, .int .i64 p9, .int .i64 p10, .int .i64 p11]) := Lib.hid (by rw [← hz3, hk27]; exact Blk.new _ _ _)
    have HY3 : Hid (Ext u3 u4) := Lib.hid (by rw [← hz3]; exact HYY3.out.alloc _)
    have HX4 := Lib.hid (HX3.out.trans HY3.out)
    clear hz3 hk27 HYY3
    have HB0_4 := Lib.hid (HB0_3.out.ext HY3.out)
    have HB1_4 := Lib.hid (HB1_3.out.ext HY3.out)
    have HB2_4 := Lib.hid (HB2_3.out.ext HY3.out)
    have hlg4 := law_legs ((ds.map (Tld.leg bl))) (some ⟨g, 0, none⟩) (gc) u4 (HLA.out.ext HX4.out) (by rw [HN4.out]; omega) (fun l hl => HZ.out l (HMEM4.out l hl))
    rw [HN4.out] at hlg4
    have HLG4 := Lib.hid hlg4
    clear hlg4
    go_wp2_with fail
    refine HLG4.out.mono ?_
    rintro e x4 ⟨v4, rfl, hl4, hx4⟩
    obtain ⟨la4, lc4, rfl⟩ := hl4.shape
    have hmt4 := mean_First ((ds.map (Tld.leg bl))) la4 lc4 x4 (hl4.legs (fun l hl => HIS.out l (HMEM4.out l hl))) (by rw [HN4.out]; omega)
    rw [HOF.out.2.2.2.2.1, HN4.out] at hmt4
    unfold Tot.cells at hmt4
    dsimp only at hmt4
    rw [HN4.out]
    have HMT4 := Lib.hid hmt4
    have HZ4 := Lib.hid hx4
    clear hl4 hmt4 hx4 HLG4
    go_wp2_with fail
    refine HMT4.out.mono ?_
    rintro e y4 ⟨rfl, hy4⟩
    have HYY4 := Lib.hid (HZ4.out.trans hy4)
    clear hy4 HMT4 HZ4
    go_upto_region 25 with fail
    generalize hz4 : World.alloc y4 _ = u5
    obtain ⟨k30, hk30⟩ : ∃ y, y = y4.heap.size := ⟨_, rfl⟩
    rw [← hk30]
    have HB4_5 : Hid (Blk u5 k30 #[.int .i64 f0, .int .i64 f1, .int .i64 f2, .int .i64 f3, .int .i64 f4, .int .i64 f5, .int .i64 f6, .int .i64 f7, .int .i64 f8, .int .i64 f9, .int .i64 f10, .int .i64 f11]) := Lib.hid (by rw [← hz4, hk30]; exact Blk.new _ _ _)
    have HY4 : Hid (Ext u4 u5) := Lib.hid (by rw [← hz4]; exact HYY4.out.alloc _)
    have HX5 := Lib.hid (HX4.out.trans HY4.out)
    clear hz4 hk30 HYY4
    have HB0_5 := Lib.hid (HB0_4.out.ext HY4.out)
    have HB1_5 := Lib.hid (HB1_4.out.ext HY4.out)
    have HB2_5 := Lib.hid (HB2_4.out.ext HY4.out)
    have HB3_5 := Lib.hid (HB3_4.out.ext HY4.out)
    have hlg5 := law_legs (((ds.map (cutD bl)).map (Tld.leg bl)).reverse) (gs) (ge) u5 (HSA.out.ext HX5.out) (by rw [HN5.out]; omega) (fun l hl => HZ.out l (HMEM5.out l hl))
    rw [HN5.out] at hlg5
    have HLG5 := Lib.hid hlg5
    clear hlg5
    go_wp2_with fail
    refine HLG5.out.mono ?_
    rintro e x5 ⟨v5, rfl, hl5, hx5⟩
    obtain ⟨la5, lc5, rfl⟩ := hl5.shape
    have hmt5 := mean_Totals (((ds.map (cutD bl)).map (Tld.leg bl)).reverse) la5 lc5 x5 (hl5.legs (fun l hl => HIS.out l (HMEM5.out l hl))) (by rw [HN5.out]; omega)
    rw [HOF.out.2.2.2.2.2.1, HN5.out] at hmt5
    unfold Tot.cells at hmt5
    dsimp only at hmt5
    rw [HN5.out]
    have HMT5 := Lib.hid hmt5
    have HZ5 := Lib.hid hx5
    clear hl5 hmt5 hx5 HLG5
    go_wp2_with fail
    refine HMT5.out.mono ?_
    rintro e y5 ⟨rfl, hy5⟩
    have HYY5 := Lib.hid (HZ5.out.trans hy5)
    clear hy5 HMT5 HZ5
    rename ∀ (a : Act) (w : World), Code.wp Try.prog _ _ a w → _ => a0
    have A0 := Lib.hid a0
    clear a0
    go_wp2
    generalize hz5 : World.alloc y5 _ = u6
    obtain ⟨k33, hk33⟩ : ∃ y, y = y5.heap.size := ⟨_, rfl⟩
    rw [← hk33]
    have HB5_6 : Hid (Blk u6 k33 #[.int .i64 f0, .int .i64 f1, .int .i64 f2, .int .i64 f3, .int .i64 f4, .int .i64 f5, .int .i64 f6, .int .i64 f7, .int .i64 f8, .int .i64 f9, .int .i64 f10, .int .i64 f11]) := Lib.hid (by rw [← hz5, hk33]; exact Blk.new _ _ _)
    have HY5 : Hid (Ext u5 u6) := Lib.hid (by rw [← hz5]; exact HYY5.out.alloc _)
    have HX6 := Lib.hid (HX5.out.trans HY5.out)
    clear hz5 hk33 HYY5
    have HB0_6 := Lib.hid (HB0_5.out.ext HY5.out)
    have HB1_6 := Lib.hid (HB1_5.out.ext HY5.out)
    have HB2_6 := Lib.hid (HB2_5.out.ext HY5.out)
    have HB3_6 := Lib.hid (HB3_5.out.ext HY5.out)
    have HB4_6 := Lib.hid (HB4_5.out.ext HY5.out)
    refine A0.out _ _ ?_
    exact many_last _ (by kernel_rfl) HK w u6 (Lib.hid (HX.out.trans HX6.out)) k18 k21 k24 k27 k30 k33 o0 o1 o2 o3 o4 o5 o6 o7 o8 o9 o10 o11 p0 p1 p2 p3 p4 p5 p6 p7 p8 p9 p10 p11 f0 f1 f2 f3 f4 f5 f6 f7 f8 f9 f10 f11 HB0_6 HB1_6 HB2_6 HB3_6 HB4_6 HB5_6 HM HSO HSP
end Go.Proofs.Ytmopadnkjlodnaa
