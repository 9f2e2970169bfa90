/-
  MeanMany, walked: from region 10 on.
-/
import Derived.Test.YtmopadnkjlodnaaNmd
import Derived.Deep.CutBlock
import Derived.Deep.DeepCutAuto
namespace Go.Proofs.Ytmopadnkjlodnaa
open Go.RowKit Go.BigFrame
attribute [local go_sem] Later.cell Later.frozen Lat.cell Lat.frozen NoX
set_option maxRecDepth 100000 in
set_option maxHeartbeats 16000000 in
theorem many_back (c : Code) (hcd : codeFrom 10 (Try.f12.body.getD .skip) = some c) (HK : Hid Knows) (w w3 : World) (HX : Hid (Ext w w3)) (bl : List Int) (hbl : 1 ≤ bl.length ∧ bl.length ≤ 82) (HI64 : Hid (∀ b ∈ bl, I64 b)) (ds : List Tld) (k : Nat) (hN4 : 1 ≤ k ∧ k ≤ 4) (HDK : Hid (ds.length = k)) (HD : Hid (∀ d ∈ ds, d.ok bl)) (base : Nat) (g gc : Nat)
    (HL : Hid (LgsO w3 base (.slice (some ⟨g, 0, none⟩) k gc) (ds.map (Tld.leg bl)))) (hgc : k ≤ gc) (HSZB : Hid (base ≤ w3.heap.size)) (cut : Nat) (hcut : cut ≤ 255) {s0 s2 s3 s4 s5 s7 s8 s9 s10 s11 s12 s13 s14 s15 s16 s17 s18 s19 s20 s21 s22 s23 s24 s25 s26 s27 s28 s29 s30 s31 s32 s33 s34 s35 s36 s37 s38 s39 s40 s41 s42 s43 s44 s45 s46 s47 s48 s49 s50 s51 s52 s53 s54 s55 s56 s57 s58 s59 s60 s61 s62 s63 s64 s65 s66 s67 s68 s69 s70 s71 s72 s73 s74 s75 s76 s77 s78 s79 s80 s81 s82 s83 s84 s85 s86 s87 s88 s89 s90 s91 s92 s93 s94 s95 s96 s97 s98 s99 s100 s101 s102 s103 s104 s105 s106 s107 s108 s109 s110 s111 s112 s113 s114 s115 s116 s117 s118 s119 s120 s121 s122 s123 s124 s125 s126 s127 s128 s129 s130 s131 s132 s133 s134 s135 s136 s137 s138 s139 s140 s141 s142 s143 s144 s145 s146 s147 s148 s149 s150 s151 s152 s153 s154 s155 s156 s157 s158 s159 s160 s161 s162 s163 s164 s165 s166 s167 s168 s169 s170 s171 s172 s173 s174 s175 s176 s177 s178 s179 s180 s181 s182 s183 s184 s185 s186 s187 s188 s189 s190 s191 s192 s193 s194 s195 s196 s197 s198 s199 s200 s201 s202 s203 s204 s205 s206 s207 s208 s209 s210 s211 s212 s213 s214 s215 s216 s217 s218 s219 s220 s221 s222 s223 s224 s225 s226 s227 s228 s229 s230 s231 s232 s233 s234 s235 s236 s237 s238 s239 s240 s241 s242 s243 s244 s245 s246 s247 s248 s249 s250 s251 s252 s253 s254 s255 s256 s257 s258 s259 s260 s261 s262 s263 s264 s265 s266 s267 s268 s269 s270 s271 s272 s273 s274 s275 s276 s277 s278 s279 s280 s281 s282 s283 s284 s285 s286 s287 s288 s289 s290 s291 s292 s293 s294 s295 s296 s297 s298 s299 s300 s301 s302 s303 s304 s305 s306 s307 s308 s309 s310 s311 s312 s313 s314 s315 s316 s317 s318 s319 s320 s321 s322 s323 s324 s325 s326 s327 s328 s329 s330 s331 s332 s333 s334 s335 s336 s337 s338 s339 s340 s341 s342 s343 s344 s345 s346 : Value} :
    c.wp Try.prog (bodyPost Try.prog Try.f12 fun e w' => e = .returned (.bool true) ∧ Ext w w') { tmps := #[s0, .int .u8 cut, s2, s3, s4, s5, .slice (some ⟨g, 0, none⟩) k gc, s7, s8, s9, s10, s11, s12, s13, s14, s15, s16, s17, s18, s19, s20, s21, s22, s23, s24, s25, s26, s27, s28, s29, s30, s31, s32, s33, s34, s35, s36, s37, s38, s39, s40, s41, s42, s43, s44, s45, s46, s47, s48, s49, s50, s51, s52, s53, s54, s55, s56, s57, s58, s59, s60, s61, s62, s63, s64, s65, s66, s67, s68, s69, s70, s71, s72, s73, s74, s75, s76, s77, s78, s79, s80, s81, s82, s83, s84, s85, s86, s87, s88, s89, s90, s91, s92, s93, s94, s95, s96, s97, s98, s99, s100, s101, s102, s103, s104, s105, s106, s107, s108, s109, s110, s111, s112, s113, s114, s115, s116, s117, s118, s119, s120, s121, s122, s123, s124, s125, s126, s127, s128, s129, s130, s131, s132, s133, s134, s135, s136, s137, s138, s139, s140, s141, s142, s143, s144, s145, s146, s147, s148, s149, s150, s151, s152, s153, s154, s155, s156, s157, s158, s159, s160, s161, s162, s163, s164, s165, s166, s167, s168, s169, s170, s171, s172, s173, s174, s175, s176, s177, s178, s179, s180, s181, s182, s183, s184, s185, s186, s187, s188, s189, s190, s191, s192, s193, s194, s195, s196, s197, s198, s199, s200, s201, s202, s203, s204, s205, s206, s207, s208, s209, s210, s211, s212, s213, s214, s215, s216, s217, s218, s219, s220, s221, s222, s223, s224, s225, s226, s227, s228, s229, s230, s231, s232, s233, s234, s235, s236, s237, s238, s239, s240, s241, s242, s243, s244, s245, s246, s247, s248, s249, s250, s251, s252, s253, s254, s255, s256, s257, s258, s259, s260, s261, s262, s263, s264, s265, s266, s267, s268, s269, s270, s271, s272, s273, s274, s275, s276, s277, s278, s279, s280, s281, s282, s283, s284, s285, s286, s287, s288, s289, s290, s291, s292, s293, s294, s295, s296, s297, s298, s299, s300, s301, s302, s303, s304, s305, s306, s307, s308, s309, s310, s311, s312, s313, s314, s315, s316, s317, s318, s319, s320, s321, s322, s323, s324, s325, s326, s327, s328, s329, s330, s331, s332, s333, s334, s335, s336, s337, s338, s339, s340, s341, s342, s343, s344, s345, s346], defers := [] } w3 := by
  simp only [Try.f12, Option.getD_some, codeFrom, ↓reduceIte, Nat.reduceEqDiff, Option.some.injEq] at hcd
  subst hcd
  dsimp only [List.append]
  go_wp2
  rename_i K0 b0
  go_loopw [13, 14, 15] (fun b s i wr => ∃ (m : Nat) (bv sv : Value), m ≤ k ∧ bv = b ∧ sv = s ∧ i = .int .i64 ((m : Int) - 1) ∧ LgsO wr base bv ((ds.map (Tld.leg bl)).drop m).reverse ∧ LgsO wr base sv (((ds.map (cutD bl)).map (Tld.leg bl)).drop m).reverse ∧ Ext w3 wr ∧ ((∀ q, bv.ownBlock = some q → w3.heap.size ≤ q) ∧ (∀ q, sv.ownBlock = some q → w3.heap.size ≤ q) ∧ ∀ q, bv.ownBlock = some q → ¬ sv.ownBlock = some q)) (fun _ _ i _ => (intOf i + 1).toNat)
  case atStart =>
    have e1 : (ds.map (Tld.leg bl)).drop k = [] := List.drop_of_length_le (by rw [List.length_map, HDK.out]; exact Nat.le_refl _)
    have e2 : ((ds.map (cutD bl)).map (Tld.leg bl)).drop k = [] := List.drop_of_length_le (by rw [List.length_map, List.length_map, HDK.out]; exact Nat.le_refl _)
    have q0 : Ext w3 (w3.alloc (.cells #[] 28)) := (Ext.refl w3).alloc _
    refine ⟨k, _, _, Nat.le_refl _, rfl, rfl, rfl, ?_, ?_, q0.alloc _, ?_⟩
    · rw [e1]
      exact LgsO.ext (w := w3.alloc (.cells #[] 28)) ⟨[], own_empty rfl HSZB.out, rfl, fun i hi => absurd hi (by simp)⟩ ((Ext.refl _).alloc _)
    · rw [e2]
      exact ⟨[], own_empty (by simp) (by have := HSZB.out; omega), rfl, fun i hi => absurd hi (by simp)⟩
    · refine ⟨fun q hq => ?_, fun q hq => ?_, fun q hq hq2 => ?_⟩
      · have h1 := Option.some.inj (show some w3.heap.size = some q from hq)
        omega
      · have h1 := Option.some.inj (show some (w3.heap.size + 1) = some q from hq)
        omega
      · have h1 := Option.some.inj (show some w3.heap.size = some q from hq)
        have h2 := Option.some.inj (show some (w3.heap.size + 1) = some q from hq2)
        omega
  case round =>
    obtain ⟨m, bv, sv, hm, rfl, rfl, rfl, hB, hS, hx, hq1, hq2, hq3⟩ := hrel
    obtain ⟨w4, rfl⟩ : ∃ y, y = wr := ⟨_, rfl⟩
    have HB := Lib.hid hB
    have HS := Lib.hid hS
    have HX4 := Lib.hid hx
    have HQ1 := Lib.hid hq1
    have HQ2 := Lib.hid hq2
    have HQ3 := Lib.hid hq3
    clear hB hS hx hq1 hq2 hq3
    by_cases hm0 : 0 < m
    case neg =>
      obtain rfl : m = 0 := by omega
      have hb := HB.out
      have hs := HS.out
      rw [List.drop_zero] at hb hs
      obtain ⟨gb, gd, hgb⟩ := hb.shape
      obtain ⟨gs, ge, hgs⟩ := hs.shape
      rw [List.length_reverse, List.length_map, HDK.out] at hgb
      rw [List.length_reverse, List.length_map, List.length_map, HDK.out] at hgs
      subst hgb
      subst hgs
      have HBE := Lib.hid hb
      have HSE := Lib.hid hs
      clear hb hs
      go_upto_if 80 with fail
      refine wp_cond_false rfl ?_
      refine wp_exit ?_
      refine b0 _ _ ?_
      exact many_tot _ (by kernel_rfl) HK w w4 (Lib.hid (HX.out.trans HX4.out)) bl hbl HI64 ds k hN4 HDK HD base g gc gb gd gs ge (Lib.hid (HL.out.ext HX4.out)) HBE HSE hgc cut hcut
    case pos =>
    obtain ⟨j, rfl⟩ : ∃ j, m = j + 1 := ⟨m - 1, by omega⟩
    have hj1 : (((j + 1 : Nat) : Int) - 1) = (j : Int) := by omega
    rw [hj1]
    clear hj1 hm0
    have hjd : j < ds.length := by rw [HDK.out]; omega
    obtain ⟨d, hd⟩ : ∃ y, ds[j] = y := ⟨_, rfl⟩
    have hok := HD.out _ (List.getElem_mem hjd)
    rw [hd] at hok
    have HCI := Lib.hid (cut_is hok)
    have HOK := Lib.hid hok
    have HLJ : Hid ((ds.map (Tld.leg bl))[j]'(by rw [List.length_map]; exact hjd) = d.leg bl) := Lib.hid (by rw [List.getElem_map, hd])
    have HR1 : Hid (((ds.map (Tld.leg bl)).drop j).reverse = ((ds.map (Tld.leg bl)).drop (j + 1)).reverse ++ [d.leg bl]) := Lib.hid (by
      rw [List.drop_eq_getElem_cons (by rw [List.length_map]; exact hjd), List.reverse_cons, HLJ.out])
    have HR2 : Hid ((((ds.map (cutD bl)).map (Tld.leg bl)).drop j).reverse = (((ds.map (cutD bl)).map (Tld.leg bl)).drop (j + 1)).reverse ++ [(cutD bl d).leg bl]) := Lib.hid (by
      rw [List.drop_eq_getElem_cons (by rw [List.length_map, List.length_map]; exact hjd), List.reverse_cons, List.getElem_map, List.getElem_map, hd])
    have HLN1 : Hid (((ds.map (Tld.leg bl)).drop (j + 1)).reverse.length = k - (j + 1)) := Lib.hid (by rw [List.length_reverse, List.length_drop, List.length_map, HDK.out])
    have HLN2 : Hid ((((ds.map (cutD bl)).map (Tld.leg bl)).drop (j + 1)).reverse.length = k - (j + 1)) := Lib.hid (by rw [List.length_reverse, List.length_drop, List.length_map, List.length_map, HDK.out])
    obtain ⟨g', ba, sa, bc, sc, hg', hcell, hob, hos⟩ := HL.out.at_ (k := j) (by rw [List.length_map]; exact hjd)
    rw [HLJ.out] at hcell hob hos
    obtain rfl : g = g' := by cases hg'; rfl
    obtain ⟨start, gin, gout, vs, x⟩ := d
    have hsb : 2 ≤ start ∧ start ≤ 1001 := (cntB_start (laws_cnt hok.law).1).1
    have hsl15 : x.scores.length ≤ 15 := by have h1 := hok.sco.1; have h2 := hok.len; dsimp only at h1 h2; omega
    have HCELL : Hid (∀ W, Ext w3 W → ∀ n u, ([.int .i64 start, .int .i64 gin, .int .i64 gout, .slice ba bl.length bc, .slice sa x.scores.length sc, .bool x.won] : List Value)[n]? = some u → W.cell? ⟨g, j * 6 + n, none⟩ = some u) := Lib.hid (fun W hW n u hu => by
      have h := hcell n u hu
      rw [Nat.mul_comm] at h
      exact hW.cell h)
    have HOBD := Lib.hid hob
    have HOSD := Lib.hid hos
    have HSI : Hid (∀ y ∈ x.scores, I64 y) := Lib.hid hok.sco.2
    clear hg' hcell hob hos hok hd
    have HSZw4 := Lib.hid HX4.out.size
    have c0 := HCELL.out w4 HX4.out 0 (.int .i64 start) rfl
    have c1 := HCELL.out w4 HX4.out 1 (.int .i64 gin) rfl
    have c2 := HCELL.out w4 HX4.out 2 (.int .i64 gout) rfl
    have c3 := HCELL.out w4 HX4.out 3 (.slice ba bl.length bc) rfl
    have c4 := HCELL.out w4 HX4.out 4 (.slice sa x.scores.length sc) rfl
    have c5 := HCELL.out w4 HX4.out 5 (.bool x.won) rfl
    rw [Nat.add_zero] at c0
    have cl := lt_of_cell c0
    simp only at cl
    have hjk : (j : Int) < (k : Int) := by omega
    obtain ⟨vals, hv1, hv2, hv3⟩ := HB.out.ext ((Ext.refl w4).alloc (.cells #[.int .i64 start, .int .i64 gin, .int .i64 gout, .slice ba bl.length bc, .slice sa x.scores.length sc, .bool x.won] 28))
    rw [HLN1.out] at hv1 hv2
    have HROW := Lib.hid hv1
    have HV2 := Lib.hid hv2
    have HV3 := Lib.hid hv3
    clear hv1 hv2 hv3
    go_wp2_with (at_builtin; refine wp_append_from rfl _ _ 75 28 _ 6 80 rfl info_ml (by kernel_rfl) rfl (by decide) base bv (k - (j + 1)) _ rfl HROW.out (some ⟨w4.heap.size, 0, none⟩) 1 1 [.int .i64 start, .int .i64 gin, .int .i64 gout, .slice ba bl.length bc, .slice sa x.scores.length sc, .bool x.won] rfl (fun h => by cases h) rfl ?_ ?_ (by omega) (by omega) (by have h2 := HSZB.out; have h3 := HSZw4.out; simp; omega) ?_)
    · intro ad had j' u hj
      cases had
      match j', hj with
      | 0, hj => cases hj; rw [addr_add]; exact (Blk.new w4 _ _).cell 0 rfl
      | 1, hj => cases hj; rw [addr_add]; exact (Blk.new w4 _ _).cell 1 rfl
      | 2, hj => cases hj; rw [addr_add]; exact (Blk.new w4 _ _).cell 2 rfl
      | 3, hj => cases hj; rw [addr_add]; exact (Blk.new w4 _ _).cell 3 rfl
      | 4, hj => cases hj; rw [addr_add]; exact (Blk.new w4 _ _).cell 4 rfl
      | 5, hj => cases hj; rw [addr_add]; exact (Blk.new w4 _ _).cell 5 rfl
    · intro u hu
      simp only [List.mem_cons, List.not_mem_nil, or_false] at hu
      rcases hu with rfl | rfl | rfl | rfl | rfl | rfl <;> rfl
    intro v5 w5 hO5 hg5 hn5
    have hal4 : Ext w4 (w4.alloc (.cells #[.int .i64 start, .int .i64 gin, .int .i64 gout, .slice ba bl.length bc, .slice sa x.scores.length sc, .bool x.won] 28)) := (Ext.refl w4).alloc _
    have hlt5 : ∀ q, bv.ownBlock = some q → w3.heap.size ≤ q := HQ1.out
    have HX5 : Hid (Ext w3 w5) := Lib.hid (Chg.to_ext (HX4.out.alloc _) hg5 hlt5)
    have HB5 : Hid (LgsO w5 base v5 ((ds.map (Tld.leg bl)).drop j).reverse) := Lib.hid (by
      rw [HR1.out]
      exact LgsO.snoc (l := Tld.leg bl (Tld.mk start gin gout vs x)) (ba := ba) (bc := bc) (sa := sa) (sc := sc) (vals := vals) (by rw [HLN1.out]; exact HROW.out) (by rw [HLN1.out]; exact HV2.out) HV3.out (OwnD.ext HOBD.out (HX4.out.trans hal4)) (own_chg HOSD.out ((HX4.out.trans hal4).chg fun _ => False) fun _ _ => id) (by rw [HLN1.out]; exact hO5) hg5)
    have HS5 : Hid (LgsO w5 base sv (((ds.map (cutD bl)).map (Tld.leg bl)).drop (j + 1)).reverse) := Lib.hid ((HS.out.ext hal4).keep HROW.out hg5 (fun q h1 h2 => HQ3.out q h2 h1))
    have HN5 : Hid ((∀ q, v5.ownBlock = some q → w3.heap.size ≤ q) ∧ ∀ q, v5.ownBlock = some q → ¬ sv.ownBlock = some q) := Lib.hid ⟨fun q hq => by
      rcases hn5 q hq with h | ⟨h, -⟩
      · exact HQ1.out q h
      · have := HX4.out.size
        have h' : w4.heap.size + 1 ≤ q := by simpa using h
        omega, fun q hq hs => by
      rcases hn5 q hq with h | ⟨h, -⟩
      · exact HQ3.out q h hs
      · obtain ⟨_, h1, -⟩ := HS.out
        have := (World.ownsRow.lt h1 q hs).2
        have h' : w4.heap.size + 1 ≤ q := by simpa using h
        omega⟩
    clear hO5 hg5 hn5 hal4 hlt5 c0 c1 c2 c3 c4 c5 cl HROW HV2 HV3 HB HS
    have c0 := HCELL.out w5 HX5.out 0 (.int .i64 start) rfl
    have c1 := HCELL.out w5 HX5.out 1 (.int .i64 gin) rfl
    have c2 := HCELL.out w5 HX5.out 2 (.int .i64 gout) rfl
    have c3 := HCELL.out w5 HX5.out 3 (.slice ba bl.length bc) rfl
    have c4 := HCELL.out w5 HX5.out 4 (.slice sa x.scores.length sc) rfl
    have c5 := HCELL.out w5 HX5.out 5 (.bool x.won) rfl
    rw [Nat.add_zero] at c0
    have cl := lt_of_cell c0
    simp only at cl
    have HCP := Lib.hid (law_copied start gin gout bl ba bc x.scores sa sc x.won w5 (BedA.own (OwnD.ext HOBD.out HX5.out) HI64.out) (BedA.ownI (own_chg HOSD.out (HX5.out.chg fun _ => False) fun _ _ => id) HSI.out) (by omega) (by omega))
    go_wp2_with fail
    refine HCP.out.mono ?_
    rintro e w6 ⟨ia, ic, ja, jc, rfl, hO1, hO2, hx6⟩
    have HX6 := Lib.hid (HX5.out.trans hx6)
    have HB6 := Lib.hid (HB5.out.ext hx6)
    have HS6 := Lib.hid (HS5.out.ext hx6)
    have HO1 := Lib.hid (own_mono hO1 (Nat.le_trans HSZB.out HX5.out.size))
    have HO2 := Lib.hid (own_mono hO2 (Nat.le_trans HSZB.out HX5.out.size))
    clear hx6 hO1 hO2 c0 c1 c2 c3 c4 c5 cl HB5 HS5 HCP
    go_upto_region 16 with fail
    generalize hw7 : World.alloc w6 _ = w7
    obtain ⟨k16, hk16⟩ : ∃ y, y = w6.heap.size := ⟨_, rfl⟩
    rw [← hk16]
    have HT7 : Hid (BlkT w7 k16 #[.int .i64 start, .int .i64 gin, .int .i64 gout, .slice ia bl.length ic, .slice ja x.scores.length jc, .bool x.won] 28) := Lib.hid (by rw [← hw7, hk16]; exact BlkT.new _ _ _)
    have HX67 : Hid (Ext w6 w7) := Lib.hid (by rw [← hw7]; exact (Ext.refl _).alloc _)
    have HK16 : Hid (w3.heap.size ≤ k16 ∧ (∀ q, v5.ownBlock = some q → ¬ q = k16) ∧ ∀ q, sv.ownBlock = some q → ¬ q = k16) := Lib.hid ⟨by rw [hk16]; exact HX6.out.size, fun q hq => by
      obtain ⟨_, h1, -⟩ := HB6.out
      have := (World.ownsRow.lt h1 q hq).2
      omega, fun q hq => by
      obtain ⟨_, h1, -⟩ := HS6.out
      have := (World.ownsRow.lt h1 q hq).2
      omega⟩
    clear hw7 hk16
    have HX7 := Lib.hid (HX6.out.trans HX67.out)
    have HB7 := Lib.hid (HB6.out.ext HX67.out)
    have HS7 := Lib.hid (HS6.out.ext HX67.out)
    have HO17 := Lib.hid (OwnD.ext HO1.out HX67.out)
    have HO27 : Hid (OwnI w7 base (.slice ja x.scores.length jc) x.scores) := Lib.hid (own_chg HO2.out (HX67.out.chg fun _ => False) fun _ _ => id)
    clear HX67 HB6 HS6 HO1 HO2 HX6
    obtain ⟨sl, hsl⟩ : ∃ y, (x.scores.take 3).length = y := ⟨_, rfl⟩
    obtain ⟨wn, hwn⟩ : ∃ y, (cutD bl (Tld.mk start gin gout vs x)).x.won = y := ⟨_, rfl⟩
    have HSL := Lib.hid hsl
    have HWN := Lib.hid hwn
    clear hsl hwn
    have t0 := HT7.out.blk.cell 0 (v := .int .i64 start) rfl
    have t1 := HT7.out.blk.cell 1 (v := .int .i64 gin) rfl
    have t2 := HT7.out.blk.cell 2 (v := .int .i64 gout) rfl
    have t3 := HT7.out.blk.cell 3 (v := .slice ia bl.length ic) rfl
    have t4 := HT7.out.blk.cell 4 (v := .slice ja x.scores.length jc) rfl
    have t5 := HT7.out.blk.cell 5 (v := .bool x.won) rfl
    have tf0 := HT7.out.blk.frozen 0
    have tf1 := HT7.out.blk.frozen 1
    have tf2 := HT7.out.blk.frozen 2
    have tf3 := HT7.out.blk.frozen 3
    have tf4 := HT7.out.blk.frozen 4
    have tf5 := HT7.out.blk.frozen 5
    have tl := HT7.out.blk.lt
    by_cases h3 : 3 < x.scores.length
    · have hq3 : (3 : Int) < (x.scores.length : Int) := by omega
      have e1 : sl = 3 := by rw [← HSL.out, List.length_take]; omega
      have e2 : wn = false := by
        rw [← HWN.out, HCI.out.won, if_pos]
        have := HOK.out.sco.1
        dsimp only at this ⊢
        omega
      subst e1
      subst e2
      obtain ⟨gj, rfl, hgj, -⟩ := own_some HO27.out (by omega)
      have hj3 : 3 ≤ jc := by omega
      go_upto_region 18 with fail
      generalize hw8 : World.setCell (World.setCell w7 _ _) _ _ = w8
      have HT8 : Hid (BlkT w8 k16 #[.int .i64 start, .int .i64 gin, .int .i64 gout, .slice ia bl.length ic, .slice (some ⟨gj, 0, none⟩) 3 jc, .bool false] 28) := Lib.hid (by rw [← hw8]; exact (HT7.out.set 4 _).set 5 _)
      have hc2 : Chg (· = k16) w7 w8 := by rw [← hw8]; exact ((Chg.refl (· = k16) w7).setCell (.inr (show (fun x => x = k16) k16 from rfl)) _).setCell (.inr (show (fun x => x = k16) k16 from rfl)) _
      clear hw8 t0 t1 t2 t3 t4 t5 tl tf0 tf1 tf2 tf3 tf4 tf5 hq3 hj3 hgj
      have hbn : ∀ q, (Value.slice ia bl.length ic).ownBlock = some q → ¬ q = k16 := own_neT HO17.out HT7.out (by decide)
      have hsn : ∀ q, (Value.slice (some ⟨gj, 0, none⟩) x.scores.length jc).ownBlock = some q → ¬ q = k16 := own_neT HO27.out HT7.out (by decide)
      have HO18 : Hid (OwnD w8 base (.slice ia bl.length ic) bl) := Lib.hid (own_chg HO17.out hc2 hbn)
      have HO28 : Hid (OwnI w8 base (.slice (some ⟨gj, 0, none⟩) 3 jc) (x.scores.take 3)) := Lib.hid (by
        have h : OwnI w8 base (.slice (some ⟨gj, 0, none⟩) x.scores.length jc) x.scores := own_chg HO27.out hc2 hsn
        have h2 := h.take' 3
        rw [HSL.out] at h2
        exact h2)
      have HX8 : Hid (Ext w3 w8) := Lib.hid (Chg.to_ext HX7.out hc2 (fun q hq => by rw [show q = k16 from hq]; exact HK16.out.1))
      have HB8 := Lib.hid (HB7.out.keepB HT7.out hc2 HK16.out.2.1)
      have HS8 := Lib.hid (HS7.out.keepB HT7.out hc2 HK16.out.2.2)
      clear hc2 hbn hsn HT7 HX7 HB7 HS7 HO17 HO27
      have HSZw8 := Lib.hid HX8.out.size
      obtain ⟨vals, hv1, hv2, hv3⟩ := HS8.out.ext ((Ext.refl w8).alloc (.cells #[.int .i64 start, .int .i64 gin, .int .i64 gout, .slice ia bl.length ic, .slice (some ⟨gj, 0, none⟩) 3 jc, .bool false] 28))
      rw [HLN2.out] at hv1 hv2
      have HROW := Lib.hid hv1
      have HV2 := Lib.hid hv2
      have HV3 := Lib.hid hv3
      clear hv1 hv2 hv3
      have t0 := HT8.out.blk.cell 0 (v := .int .i64 start) rfl
      have t1 := HT8.out.blk.cell 1 (v := .int .i64 gin) rfl
      have t2 := HT8.out.blk.cell 2 (v := .int .i64 gout) rfl
      have t3 := HT8.out.blk.cell 3 (v := .slice ia bl.length ic) rfl
      have t4 := HT8.out.blk.cell 4 (v := .slice (some ⟨gj, 0, none⟩) 3 jc) rfl
      have t5 := HT8.out.blk.cell 5 (v := .bool false) rfl
      have tl := HT8.out.blk.lt
      go_wp2_with (at_builtin; refine wp_append_from rfl _ _ 75 28 _ 6 80 rfl info_ml (by kernel_rfl) rfl (by decide) base sv (k - (j + 1)) _ rfl HROW.out (some ⟨w8.heap.size, 0, none⟩) 1 1 [.int .i64 start, .int .i64 gin, .int .i64 gout, .slice ia bl.length ic, .slice (some ⟨gj, 0, none⟩) 3 jc, .bool false] rfl (fun h => by cases h) rfl ?_ ?_ (by omega) (by omega) (by have h2 := HSZB.out; have h3 := HSZw8.out; simp; omega) ?_)
      · intro ad had j' u hj
        cases had
        match j', hj with
        | 0, hj => cases hj; rw [addr_add]; exact (Blk.new w8 _ _).cell 0 rfl
        | 1, hj => cases hj; rw [addr_add]; exact (Blk.new w8 _ _).cell 1 rfl
        | 2, hj => cases hj; rw [addr_add]; exact (Blk.new w8 _ _).cell 2 rfl
        | 3, hj => cases hj; rw [addr_add]; exact (Blk.new w8 _ _).cell 3 rfl
        | 4, hj => cases hj; rw [addr_add]; exact (Blk.new w8 _ _).cell 4 rfl
        | 5, hj => cases hj; rw [addr_add]; exact (Blk.new w8 _ _).cell 5 rfl
      · intro u hu
        simp only [List.mem_cons, List.not_mem_nil, or_false] at hu
        rcases hu with rfl | rfl | rfl | rfl | rfl | rfl <;> rfl
      intro v9 w9 hO9 hg9 hn9
      have hal8 : Ext w8 (w8.alloc (.cells #[.int .i64 start, .int .i64 gin, .int .i64 gout, .slice ia bl.length ic, .slice (some ⟨gj, 0, none⟩) 3 jc, .bool false] 28)) := (Ext.refl w8).alloc _
      have HX9 : Hid (Ext w3 w9) := Lib.hid (Chg.to_ext (HX8.out.alloc _) hg9 HQ2.out)
      have HS9 : Hid (LgsO w9 base v9 (((ds.map (cutD bl)).map (Tld.leg bl)).drop j).reverse) := Lib.hid (by
        rw [HR2.out]
        have hcs : (Tld.leg bl (cutD bl (Tld.mk start gin gout vs x))).cells ia (some ⟨gj, 0, none⟩) ic jc = [.int .i64 start, .int .i64 gin, .int .i64 gout, .slice ia bl.length ic, .slice (some ⟨gj, 0, none⟩) 3 jc, .bool false] := by
          unfold Leg.cells Tld.leg
          dsimp only
          rw [HCI.out.same.1, HCI.out.same.2.1, HCI.out.same.2.2, HCI.out.sco, HSL.out, HWN.out]
        have hss : (Tld.leg bl (cutD bl (Tld.mk start gin gout vs x))).scores = x.scores.take 3 := HCI.out.sco
        refine LgsO.snoc (l := Tld.leg bl (cutD bl (Tld.mk start gin gout vs x))) (ba := ia) (bc := ic) (sa := some ⟨gj, 0, none⟩) (sc := jc) (vals := vals) (by rw [HLN2.out]; exact HROW.out) (by rw [HLN2.out]; exact HV2.out) HV3.out (OwnD.ext HO18.out hal8) ?_ (by rw [HLN2.out, hcs]; exact hO9) hg9
        rw [hss, HSL.out]
        exact own_chg HO28.out (hal8.chg fun _ => False) fun _ _ => id)
      have HB9 : Hid (LgsO w9 base v5 ((ds.map (Tld.leg bl)).drop j).reverse) := Lib.hid ((HB8.out.ext hal8).keep HROW.out hg9 (fun q h1 h2 => HN5.out.2 q h1 h2))
      have HN9 : Hid ((∀ q, v9.ownBlock = some q → w3.heap.size ≤ q) ∧ ∀ q, v5.ownBlock = some q → ¬ v9.ownBlock = some q) := Lib.hid ⟨fun q hq => by
        rcases hn9 q hq with h | ⟨h, -⟩
        · exact HQ2.out q h
        · have := HX8.out.size
          have h' : w8.heap.size + 1 ≤ q := by simpa using h
          omega, fun q hq hs => by
        rcases hn9 q hs with h | ⟨h, -⟩
        · exact HN5.out.2 q hq h
        · obtain ⟨_, h1, -⟩ := HB8.out
          have := (World.ownsRow.lt h1 q hq).2
          have h' : w8.heap.size + 1 ≤ q := by simpa using h
          omega⟩
      clear hO9 hg9 hn9 hal8 t0 t1 t2 t3 t4 t5 tl HROW HV2 HV3 HB8 HS8
      go_wp2
      go_roundw
      case rel => exact ⟨j, _, _, by omega, rfl, rfl, rfl, HB9.out, HS9.out, HX9.out, HN5.out.1, HN9.out.1, HN9.out.2⟩
      case measure => simp [intOf]
    · have hq3 : ¬ (3 : Int) < (x.scores.length : Int) := by omega
      have e1 : sl = x.scores.length := by rw [← HSL.out, List.length_take]; omega
      have e2 : wn = x.won := by
        rw [← HWN.out, HCI.out.won, if_neg]
        have := HOK.out.sco.1
        dsimp only at this ⊢
        omega
      subst e1
      subst e2
      go_upto_region 18 with fail
      obtain ⟨w8, hw8⟩ : ∃ y, y = w7 := ⟨_, rfl⟩
      rw [← hw8]
      have HT8 : Hid (BlkT w8 k16 #[.int .i64 start, .int .i64 gin, .int .i64 gout, .slice ia bl.length ic, .slice ja x.scores.length jc, .bool x.won] 28) := Lib.hid (by rw [hw8]; exact HT7.out)
      have hc2 : Chg (· = k16) w7 w8 := by rw [hw8]; exact Chg.refl _ _
      clear hw8 t0 t1 t2 t3 t4 t5 tl tf0 tf1 tf2 tf3 tf4 tf5 hq3
      have hbn : ∀ q, (Value.slice ia bl.length ic).ownBlock = some q → ¬ q = k16 := own_neT HO17.out HT7.out (by decide)
      have hsn : ∀ q, (Value.slice ja x.scores.length jc).ownBlock = some q → ¬ q = k16 := own_neT HO27.out HT7.out (by decide)
      have HO18 : Hid (OwnD w8 base (.slice ia bl.length ic) bl) := Lib.hid (own_chg HO17.out hc2 hbn)
      have HO28 : Hid (OwnI w8 base (.slice ja x.scores.length jc) (x.scores.take 3)) := Lib.hid (by
        have h : OwnI w8 base (.slice ja x.scores.length jc) x.scores := own_chg HO27.out hc2 hsn
        have h2 := h.take' 3
        rw [HSL.out] at h2
        exact h2)
      have HX8 : Hid (Ext w3 w8) := Lib.hid (Chg.to_ext HX7.out hc2 (fun q hq => by rw [show q = k16 from hq]; exact HK16.out.1))
      have HB8 := Lib.hid (HB7.out.keepB HT7.out hc2 HK16.out.2.1)
      have HS8 := Lib.hid (HS7.out.keepB HT7.out hc2 HK16.out.2.2)
      clear hc2 hbn hsn HT7 HX7 HB7 HS7 HO17 HO27
      have HSZw8 := Lib.hid HX8.out.size
      obtain ⟨vals, hv1, hv2, hv3⟩ := HS8.out.ext ((Ext.refl w8).alloc (.cells #[.int .i64 start, .int .i64 gin, .int .i64 gout, .slice ia bl.length ic, .slice ja x.scores.length jc, .bool x.won] 28))
      rw [HLN2.out] at hv1 hv2
      have HROW := Lib.hid hv1
      have HV2 := Lib.hid hv2
      have HV3 := Lib.hid hv3
      clear hv1 hv2 hv3
      have t0 := HT8.out.blk.cell 0 (v := .int .i64 start) rfl
      have t1 := HT8.out.blk.cell 1 (v := .int .i64 gin) rfl
      have t2 := HT8.out.blk.cell 2 (v := .int .i64 gout) rfl
      have t3 := HT8.out.blk.cell 3 (v := .slice ia bl.length ic) rfl
      have t4 := HT8.out.blk.cell 4 (v := .slice ja x.scores.length jc) rfl
      have t5 := HT8.out.blk.cell 5 (v := .bool x.won) rfl
      have tl := HT8.out.blk.lt
      go_wp2_with (at_builtin; refine wp_append_from rfl _ _ 75 28 _ 6 80 rfl info_ml (by kernel_rfl) rfl (by decide) base sv (k - (j + 1)) _ rfl HROW.out (some ⟨w8.heap.size, 0, none⟩) 1 1 [.int .i64 start, .int .i64 gin, .int .i64 gout, .slice ia bl.length ic, .slice ja x.scores.length jc, .bool x.won] rfl (fun h => by cases h) rfl ?_ ?_ (by omega) (by omega) (by have h2 := HSZB.out; have h3 := HSZw8.out; simp; omega) ?_)
      · intro ad had j' u hj
        cases had
        match j', hj with
        | 0, hj => cases hj; rw [addr_add]; exact (Blk.new w8 _ _).cell 0 rfl
        | 1, hj => cases hj; rw [addr_add]; exact (Blk.new w8 _ _).cell 1 rfl
        | 2, hj => cases hj; rw [addr_add]; exact (Blk.new w8 _ _).cell 2 rfl
        | 3, hj => cases hj; rw [addr_add]; exact (Blk.new w8 _ _).cell 3 rfl
        | 4, hj => cases hj; rw [addr_add]; exact (Blk.new w8 _ _).cell 4 rfl
        | 5, hj => cases hj; rw [addr_add]; exact (Blk.new w8 _ _).cell 5 rfl
      · intro u hu
        simp only [List.mem_cons, List.not_mem_nil, or_false] at hu
        rcases hu with rfl | rfl | rfl | rfl | rfl | rfl <;> rfl
      intro v9 w9 hO9 hg9 hn9
      have hal8 : Ext w8 (w8.alloc (.cells #[.int .i64 start, .int .i64 gin, .int .i64 gout, .slice ia bl.length ic, .slice ja x.scores.length jc, .bool x.won] 28)) := (Ext.refl w8).alloc _
      have HX9 : Hid (Ext w3 w9) := Lib.hid (Chg.to_ext (HX8.out.alloc _) hg9 HQ2.out)
      have HS9 : Hid (LgsO w9 base v9 (((ds.map (cutD bl)).map (Tld.leg bl)).drop j).reverse) := Lib.hid (by
        rw [HR2.out]
        have hcs : (Tld.leg bl (cutD bl (Tld.mk start gin gout vs x))).cells ia ja ic jc = [.int .i64 start, .int .i64 gin, .int .i64 gout, .slice ia bl.length ic, .slice ja x.scores.length jc, .bool x.won] := by
          unfold Leg.cells Tld.leg
          dsimp only
          rw [HCI.out.same.1, HCI.out.same.2.1, HCI.out.same.2.2, HCI.out.sco, HSL.out, HWN.out]
        have hss : (Tld.leg bl (cutD bl (Tld.mk start gin gout vs x))).scores = x.scores.take 3 := HCI.out.sco
        refine LgsO.snoc (l := Tld.leg bl (cutD bl (Tld.mk start gin gout vs x))) (ba := ia) (bc := ic) (sa := ja) (sc := jc) (vals := vals) (by rw [HLN2.out]; exact HROW.out) (by rw [HLN2.out]; exact HV2.out) HV3.out (OwnD.ext HO18.out hal8) ?_ (by rw [HLN2.out, hcs]; exact hO9) hg9
        rw [hss, HSL.out]
        exact own_chg HO28.out (hal8.chg fun _ => False) fun _ _ => id)
      have HB9 : Hid (LgsO w9 base v5 ((ds.map (Tld.leg bl)).drop j).reverse) := Lib.hid ((HB8.out.ext hal8).keep HROW.out hg9 (fun q h1 h2 => HN5.out.2 q h1 h2))
      have HN9 : Hid ((∀ q, v9.ownBlock = some q → w3.heap.size ≤ q) ∧ ∀ q, v5.ownBlock = some q → ¬ v9.ownBlock = some q) := Lib.hid ⟨fun q hq => by
        rcases hn9 q hq with h | ⟨h, -⟩
        · exact HQ2.out q h
        · have := HX8.out.size
          have h' : w8.heap.size + 1 ≤ q := by simpa using h
          omega, fun q hq hs => by
        rcases hn9 q hs with h | ⟨h, -⟩
        · exact HN5.out.2 q hq h
        · obtain ⟨_, h1, -⟩ := HB8.out
          have := (World.ownsRow.lt h1 q hq).2
          have h' : w8.heap.size + 1 ≤ q := by simpa using h
          omega⟩
      clear hO9 hg9 hn9 hal8 t0 t1 t2 t3 t4 t5 tl HROW HV2 HV3 HB8 HS8
      go_wp2
      go_roundw
      case rel => exact ⟨j, _, _, by omega, rfl, rfl, rfl, HB9.out, HS9.out, HX9.out, HN5.out.1, HN9.out.1, HN9.out.2⟩
      case measure => simp [intOf]
end Go.Proofs.Ytmopadnkjlodnaa
