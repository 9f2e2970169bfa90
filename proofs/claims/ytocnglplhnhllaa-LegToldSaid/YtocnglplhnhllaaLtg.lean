/-
  The statement LegTold: the visits, one by one.
-/
import Derived.Test.YtocnglplhnhllaaLtf
import Derived.Test.YtocnglplhnhllaaKep
namespace Go.Proofs.Ytocnglplhnhllaa
open Go.RowKit Go.BigFrame
attribute [local go_sem] Later.cell Later.frozen Lat.cell Lat.frozen
theorem six_chg (S : Nat → Prop) (w : World) {b : Nat} (hb : S b) (x0 x1 x2 x3 x4 x5 : Value) : Chg S w ((((((w.setCell ⟨b, 0, none⟩ x0).setCell ⟨b, 1, none⟩ x1).setCell ⟨b, 2, none⟩ x2).setCell ⟨b, 3, none⟩ x3).setCell ⟨b, 4, none⟩ x4).setCell ⟨b, 5, none⟩ x5) :=
  ((((((Chg.refl S w).setCell (.inr hb) x0).setCell (.inr hb) x1).setCell (.inr hb) x2).setCell (.inr hb) x3).setCell (.inr hb) x4).setCell (.inr hb) x5
theorem aft_ext {ks : List Knd} {i lo : Nat} {rs rs' : List Res} {w0 w' : World} {v : Value} (x : Lat (fun b _ => lo ≤ b) w0) (hk : (kAt ks i).ok v) (h : Frm lo rs x.world) (hx : Ext x.world w') (he : rs = rs') : (kAt ks i).ok v ∧ (∃ y : Lat (fun b _ => lo ≤ b) w0, w' = y.world) ∧ Frm lo rs' w' :=
  ⟨hk, ⟨x.ext hx, rfl⟩, he ▸ h.ext hx⟩
/-- A visit of the tale, in numbers. -/
structure TolN (r : Rul) (l : List LV) (i : Nat) (gm gm' : Gm) (ss bs : List Int) (pl : Int) (p : Nat) (lp sp xl xsc cs cgi cgo : Int) (ip xi xb xw : Bool) : Prop where
  player : pl = (p : Int)
  hps : ∃ h : p < ss.length, ss[p] = sp
  hpl : ∃ h : p < gm.left.length, gm.left[p] = lp
  hpi : ∃ h : p < gm.inn.length, gm.inn[p] = ip
  hpc : ∃ h : p < r.counts.length, r.counts[p] = ⟨cs, cgi, cgo⟩
  blen : bs.length ≤ 3
  bi64 : ∀ b ∈ bs, I64 b
  vis : visS cs cgi cgo ip lp bs = (⟨xl, xsc, bs.length, xi, xb, xw⟩, 0)
  score : lp - xl = xsc
  pos : 0 ≤ xsc
  bust : xb = true → xsc = 0
  won : (xl == 0) = xw
  blp : 0 ≤ lp ∧ lp ≤ 1001
  bxl : 0 ≤ xl ∧ xl ≤ 1001
  bsp : -2000 ≤ sp ∧ sp ≤ 2000
  next : TolI r l (i + 1) gm'
  left' : gm'.left = gm.left.set p xl
  inn' : gm'.inn = gm.inn.set p xi
  sums : SumS r (ss.set p (sp + xsc)) gm'.left
theorem tol_num {r : Rul} (hr : r.ok = true) {l : List LV} {g gm : Gm} {E A ss : List Int} (hT : TalI r l g E A) {i : Nat} (h : TolI r l i gm) (hi : i < l.length) (hs : ss.length = r.counts.length ∧ SumS r ss gm.left) :
    ∃ p gm' lp sp xl xsc cs cgi cgo ip xi xb xw, TolN r l i gm gm' ss l[i].beds l[i].player p lp sp xl xsc cs cgi cgo ip xi xb xw := by
  obtain ⟨p, ⟨xl, xsc, xd, xi, xb, xw⟩, gm', hV⟩ := h.next hr hT hi
  obtain ⟨hs0, hs1⟩ := hs
  have hp := hV.lt
  have hpl : p < gm.left.length := by rw [hV.left]; exact hp
  have hpi : p < gm.inn.length := by rw [hV.inn]; exact hp
  have hps : p < ss.length := by rw [hs0]; exact hp
  have e1 : gm.left.getD p 0 = gm.left[p] := by simp [List.getD_eq_getElem?_getD, hpl]
  have e2 : gm.inn.getD p false = gm.inn[p] := by simp [List.getD_eq_getElem?_getD, hpi]
  have e3 : cntOf r p = r.counts[p] := by simp [cntOf, List.getD_eq_getElem?_getD, hp]
  have e4 : ss.getD p 0 = ss[p] := by simp [List.getD_eq_getElem?_getD, hps]
  have hv := hV.vis
  have hsc := hV.score
  have hdt := hV.darts
  have hcs := cnt_start hr hp
  have hlb := (TolI.lefts hr hT h).2.2 _ (List.getElem_mem hpl)
  have hxm : xl ∈ gm'.left := by
    rw [hV.left']
    have := List.getElem_mem (l := gm.left.set p xl) (n := p) (by simpa using hpl)
    simpa using this
  have hxb := (TolI.lefts hr hT hV.next).2.2 _ hxm
  have hsm := hs1 p hp
  simp only at hdt hsc
  rw [e1] at hsc
  rw [e3, e4, e1] at hsm
  rw [e1, e2, e3, hdt] at hv
  refine ⟨p, gm', gm.left[p], ss[p], xl, xsc, r.counts[p].start, r.counts[p].gin, r.counts[p].gout, gm.inn[p], xi, xb, xw, hV.player, ⟨hps, rfl⟩, ⟨hpl, rfl⟩, ⟨hpi, rfl⟩, ⟨hp, rfl⟩, (hT.fits _ (List.getElem_mem hi)).2.1.2, (hT.fits _ (List.getElem_mem hi)).1.2.1, hv, hsc.symm, hV.pos, hV.bust, hV.won.symm, hlb, hxb, by omega, hV.next, hV.left', hV.inn', ?_⟩
  have hgl : gm'.left = gm.left.set p xl := hV.left'
  rw [hgl]
  refine hs1.set hps hpl ?_
  rw [e4, e1]
  omega
set_option maxRecDepth 100000 in
set_option maxHeartbeats 16000000 in
theorem told_visits (c : Code) (hc : codeSeq 16 (Try.f8.body.getD .skip) = some c) (t : ToA) (r : Rul) (l : List LV) (g : Gm) (E A : List Int) (n B gs gc gl lc gi ic : Nat) (w w2 w4 : World)
    (HI : Hid (TalI r l g E A)) (HOK : Hid (r.ok = true)) (HN : Hid (n = r.counts.length)) (hn8 : n ≤ 8) (hl60 : l.length ≤ 60) (hB : B ≤ w2.heap.size) (hB2 : w2.heap.size ≤ B)
    (HF : Hid (Frm B [Res.own B 3 1 (.slice (some ⟨gs, 0, none⟩) n gc) n ((List.replicate n 0).map (Value.int .i64)), Res.own B 3 1 (.slice (some ⟨gl, 0, none⟩) n lc) n ((Gm.begin r).left.map (Value.int .i64)), Res.own B 4 1 (.slice (some ⟨gi, 0, none⟩) n ic) n ((Gm.begin r).inn.map Value.bool)] w4)) (HW : Hid (ToldW t r l g E A w2)) (HX : Hid (Ext w w2)) (HX4 : Hid (Ext w2 w4)) {s0 s1 s2 s6 s7 s12 s13 s14 s15 s16 s17 s18 s19 s20 s21 s22 s23 s24 s25 s26 s27 s28 s29 s30 s31 s32 s33 s34 s35 s36 s37 s38 s39 s40 s41 s42 s43 s44 s45 s46 s47 s48 s49 s50 s51 s52 s53 s54 s55 s56 s57 s58 s59 s60 s61 s62 s63 s64 s65 s66 s67 s68 s69 s70 s71 s72 s73 s74 s75 s76 s77 s78 s79 s80 s81 s82 s83 s84 s85 s86 s87 s88 s89 s90 s91 s92 s93 s94 s95 s96 s97 s98 s99 s100 s101 s102 s103 s104 s105 s106 s107 s108 s109 s110 s111 s112 s113 s114 s115 s116 s117 s118 s119 s120 s121 s122 s123 s124 s125 s126 s127 s128 s129 s130 s131 s132 s133 s134 s135 s136 s137 s138 s139 s140 s141 s142 s143 s144 s145 s146 s147 s148 s149 s150 s151 s152 s153 s154 s155 s156 s157 s158 s159 s160 s161 s162 s163 s164 s165 s166 s167 s168 s169 s170 s171 s172 s173 s174 s175 s176 s177 s178 s179 s180 s181 s182 s183 s184 s185 s186 s187 s188 s189 s190 s191 s192 s193 s194 s195 s196 s197 s198 s199 s200 s201 s202 s203 s204 s205 s206 s207 s208 s209 s210 s211 s212 s213 s214 s215 s216 s217 s218 s219 s220 s221 s222 s223 s224 s225 s226 s227 s228 s229 s230 s231 s232 s233 s234 s235 s236 s237 s238 s239 s240 s241 s242 s243 s244 s245 s246 s247 s248 s249 s250 s251 s252 s253 s254 s255 s256 s257 s258 s259 s260 s261 s262 s263 s264 s265 s266 s267 s268 s269 s270 s271 s272 s273 s274 s275 s276 s277 s278 s279 s280 s281 s282 s283 s284 s285 s286 s287 s288 s289 s290 s291 s292 s293 s294 s295 s296 s297 s298 s299 s300 s301 s302 s303 s304 s305 s306 s307 s308 s309 s310 s311 s312 s313 s314 s315 s316 s317 s318 s319 s320 s321 s322 s323 s324 s325 s326 s327 s328 s329 s330 s331 s332 s333 s334 s335 s336 s337 s338 s339 s340 s341 s342 s343 s344 s345 s346 s347 s348 s349 s350 s351 s352 s353 s354 s355 s356 s357 s358 s359 s360 s361 s362 s363 s364 s365 s366 s367 s368 s369 s370 s371 s372 s373 s374 s375 s376 s377 s378 s379 s380 s381 s382 s383 s384 s385 s386 s387 s388 s389 s390 s391 s392 s393 s394 s395 s396 s397 s398 s399 s400 s401 s402 s403 s404 : Value} :
    c.wp Try.prog (bodyPost Try.prog Try.f8 fun e w' => e = .returned (.bool true) ∧ Ext w w') { tmps := #[s0, s1, s2, .pointer (some ⟨t.k4, 0, none⟩), .pointer (some ⟨t.k5, 0, none⟩), .pointer (some ⟨t.pk, 0, none⟩), s6, s7, .int .i64 n, .slice (some ⟨gs, 0, none⟩) n gc, .slice (some ⟨gl, 0, none⟩) n lc, .slice (some ⟨gi, 0, none⟩) n ic, s12, s13, s14, s15, s16, s17, s18, s19, s20, s21, s22, s23, s24, s25, s26, s27, s28, s29, s30, s31, s32, s33, s34, s35, s36, s37, s38, s39, s40, s41, s42, s43, s44, s45, s46, s47, s48, s49, s50, s51, s52, s53, s54, s55, s56, s57, s58, s59, s60, s61, s62, s63, s64, s65, s66, s67, s68, s69, s70, s71, s72, s73, s74, s75, s76, s77, s78, s79, s80, s81, s82, s83, s84, s85, s86, s87, s88, s89, s90, s91, s92, s93, s94, s95, s96, s97, s98, s99, s100, s101, s102, s103, s104, s105, s106, s107, s108, s109, s110, s111, s112, s113, s114, s115, s116, s117, s118, s119, s120, s121, s122, s123, s124, s125, s126, s127, s128, s129, s130, s131, s132, s133, s134, s135, s136, s137, s138, s139, s140, s141, s142, s143, s144, s145, s146, s147, s148, s149, s150, s151, s152, s153, s154, s155, s156, s157, s158, s159, s160, s161, s162, s163, s164, s165, s166, s167, s168, s169, s170, s171, s172, s173, s174, s175, s176, s177, s178, s179, s180, s181, s182, s183, s184, s185, s186, s187, s188, s189, s190, s191, s192, s193, s194, s195, s196, s197, s198, s199, s200, s201, s202, s203, s204, s205, s206, s207, s208, s209, s210, s211, s212, s213, s214, s215, s216, s217, s218, s219, s220, s221, s222, s223, s224, s225, s226, s227, s228, s229, s230, s231, s232, s233, s234, s235, s236, s237, s238, s239, s240, s241, s242, s243, s244, s245, s246, s247, s248, s249, s250, s251, s252, s253, s254, s255, s256, s257, s258, s259, s260, s261, s262, s263, s264, s265, s266, s267, s268, s269, s270, s271, s272, s273, s274, s275, s276, s277, s278, s279, s280, s281, s282, s283, s284, s285, s286, s287, s288, s289, s290, s291, s292, s293, s294, s295, s296, s297, s298, s299, s300, s301, s302, s303, s304, s305, s306, s307, s308, s309, s310, s311, s312, s313, s314, s315, s316, s317, s318, s319, s320, s321, s322, s323, s324, s325, s326, s327, s328, s329, s330, s331, s332, s333, s334, s335, s336, s337, s338, s339, s340, s341, s342, s343, s344, s345, s346, s347, s348, s349, s350, s351, s352, s353, s354, s355, s356, s357, s358, s359, s360, s361, s362, s363, s364, s365, s366, s367, s368, s369, s370, s371, s372, s373, s374, s375, s376, s377, s378, s379, s380, s381, s382, s383, s384, s385, s386, s387, s388, s389, s390, s391, s392, s393, s394, s395, s396, s397, s398, s399, s400, s401, s402, s403, s404], defers := [] } w4 := by
  let Q2 : Exit → Act → World → Prop := bodyPost Try.prog Try.f8 fun _ _ => True
  simp only [Try.f8, Option.getD_some, codeSeq, ↓reduceIte, Nat.reduceEqDiff, Option.some.injEq] at hc
  subst hc
  have HW' := HW
  obtain ⟨k4, k5, pk, c1, c30, c31, c32, c33, c34, c35, pc0, pc1, pc2, pc3, a1, a30, a31, a32, a33, a34, a35, pa0, pa1, pa2, pa3, nx⟩ := t
  dsimp only
  have m0 : w2.cell? ⟨k4, 0, none⟩ = some (.slice a1 n c1) := by rw [HN.out]; exact HW.out.rul.cell 0 rfl
  have hl4 : k4 < w2.heap.size := HW.out.rul.lt
  have d0 : w2.cell? ⟨k5, 0, none⟩ = some (.slice a30 l.length c30) := HW.out.tal.cell 0 rfl
  have hl5 : k5 < w2.heap.size := HW.out.tal.lt
  have HCR : Hid (CntsAt w2 a1 r.counts) := Lib.hid HW.out.cr
  have HVI : Hid (VisIn w2 a30 l) := Lib.hid HW.out.vis
  clear HW
  go_upto_block 2 with fail
  go_cut [13, 14, 15, 16] from 184 to 289 (fun _ _ _ _ wx => ∃ ss, (ss.length = r.counts.length ∧ SumS r ss g.left) ∧ CellsAt wx .i64 (some ⟨gs, 0, none⟩) ss ∧ Ext w2 wx)
  case rest =>
    obtain ⟨ss, hs0, hcl, hx⟩ := hcut
    rename_i K0 a0
    refine a0 _ _ ?_
    exact told_wins _ (by kernel_rfl) ⟨k4, k5, pk, c1, c30, c31, c32, c33, c34, c35, pc0, pc1, pc2, pc3, a1, a30, a31, a32, a33, a34, a35, pa0, pa1, pa2, pa3, nx⟩ r l g E A ss n gs gc w wc HI HOK HN hn8 hl60 (Lib.hid hs0) (Lib.hid hcl) (Lib.hid (HW'.out.ext hx)) (Lib.hid (HX.out.trans hx))
  case first =>
    go_wp2_with fail
    go_loopw [13] (fun ii wr => ∃ (i : Nat) (gm : Gm) (ss : List Int), i ≤ l.length ∧ ii = .int .i64 i ∧ TolI r l i gm ∧ (ss.length = r.counts.length ∧ SumS r ss gm.left) ∧ Frm B [Res.own B 3 1 (.slice (some ⟨gs, 0, none⟩) n gc) n (ss.map (Value.int .i64)), Res.own B 3 1 (.slice (some ⟨gl, 0, none⟩) n lc) n (gm.left.map (Value.int .i64)), Res.own B 4 1 (.slice (some ⟨gi, 0, none⟩) n ic) n (gm.inn.map Value.bool)] wr ∧ Ext w2 wr) (fun ii _ => l.length - (intOf ii).toNat)
    case atStart => exact ⟨0, Gm.begin r, List.replicate n 0, Nat.zero_le _, rfl, TolI.start r l, ⟨by rw [List.length_replicate]; exact HN.out, SumS.start HN.out⟩, HF.out, HX4.out⟩
    case round =>
      obtain ⟨i, gm, ss, hi, rfl, hTi, hSS, hF, hx⟩ := hrel
      have hsz := hx.size
      replace m0 := hx.cell m0
      replace d0 := hx.cell d0
      replace hl4 : k4 < wr.heap.size := by omega
      replace hl5 : k5 < wr.heap.size := by omega
      have HTi := Lib.hid hTi
      have HSS := Lib.hid hSS
      have HF1 := Lib.hid hF
      have HXr := Lib.hid hx
      clear hTi hSS hF HF HX4
      obtain ⟨w6, rfl⟩ : ∃ x, x = wr := ⟨_, rfl⟩
      by_cases hlt : i < l.length
      · obtain ⟨p, gm', lp, sp, xl, xsc, cs, cgi, cgo, ip, xi, xb, xw, hV⟩ := tol_num HOK.out HI.out HTi.out hlt HSS.out
        obtain ⟨vb, vo, ba, bc, rfl, p0, p1, hbe, hbn⟩ := HVI.out i hlt
        rw [hV.player] at p0
        obtain ⟨bs, hbs⟩ : ∃ bs, l[i].beds = bs := ⟨_, rfl⟩
        rw [hbs] at p1 hbe hbn hV
        obtain ⟨hpc, hcc⟩ := hV.hpc
        obtain ⟨hps, hcs⟩ := hV.hps
        obtain ⟨hpl, hcl⟩ := hV.hpl
        obtain ⟨hpi, hci⟩ := hV.hpi
        obtain ⟨cb, co, rfl, z0, z1, z2⟩ := HCR.out p hpc
        rw [hcc] at z0 z1 z2
        have i0 := own_bool_at (HF1.out.get 2 rfl) hpi
        have l0 := own_int_at (HF1.out.get 1 rfl) hpl
        rw [hci] at i0
        rw [hcl] at l0
        replace p0 := hx.cell p0
        replace p1 := hx.cell p1
        replace z0 := hx.cell z0
        replace z1 := hx.cell z1
        replace z2 := hx.cell z2
        have hvl := lt_of_cell p0
        have hcbl := lt_of_cell z0
        have hil := lt_of_cell i0
        have hll := lt_of_cell l0
        simp only at hvl hcbl hil hll
        have HV := Lib.hid hV
        have HBE := Lib.hid (hbe.ext hx)
        have HBN := Lib.hid hbn
        have hbl := hV.blen
        have hpn : p < n := by rw [HN.out]; exact hpc
        have HCS := Lib.hid hcs
        have HCL := Lib.hid hcl
        have HCI := Lib.hid hci
        clear hV hbs hbe hbn hcc hcs hcl hci
        go_upto_region 20 with fail
        refine wp_region_sep (by kernel_rfl) [.no, .no, .no, .no, .no, .no, .no, .no, .no, .no, .no, .no, .no, .box 0, .no, .no, .no, .no, .no, .no, .app bs.length, .val (.tuple #[.agg #[.int .i64 xl, .int .i64 xsc, .int .i64 bs.length, .bool xi, .bool xb, .bool xw], .int .i64 0]), .no, .no, .no, .ptr, .any] w6.heap.size
          (fun L u => [bif L 20 then Res.own w6.heap.size 34 1 (u 20) bs.length (bs.map (Value.int .i64)) else (bif L 13 then Res.own w6.heap.size 34 1 (u 13) 0 [] else Res.none), bif L 25 then Res.blk (ptrOf (u 25)) (bif L 26 then #[.int .i64 xl, .int .i64 xsc, .int .i64 bs.length, .bool xi, .bool xb, .bool xw] else #[.int .i64 0, .int .i64 0, .int .i64 0, .bool false, .bool false, .bool false]) else Res.none])
          (by kernel_rfl) (Nat.le_of_ble_eq_true rfl) (fun L L' u hh => by simp only [hh 13 rfl, hh 20 rfl, hh 25 rfl, hh 26 rfl]) (fun _ => Frm.nones w6.heap.size 2 w6) ?_
        intro T hT hne u hu
        obtain ⟨k13, u13⟩ : ∃ k, u 13 = .slice (some ⟨k, 0, none⟩) 0 0 := hu 13 rfl
        obtain ⟨a20, c20, u20⟩ : ∃ a c, u 20 = .slice a bs.length c := hu 20 rfl
        have u21 : u 21 = .tuple #[.agg #[.int .i64 xl, .int .i64 xsc, .int .i64 bs.length, .bool xi, .bool xb, .bool xw], .int .i64 0] := hu 21 rfl
        obtain ⟨k15, u25⟩ : ∃ k, u 25 = .pointer (some ⟨k, 0, none⟩) := hu 25 rfl
        have hlo : w6.heap.size ≤ w6.heap.size := Nat.le_refl _
        clear hu
        refine lx_next 13 (by rfl) (by decide) ?_
        dsimp only [List.take, List.drop]
        repeat (go_big_quiet_step (fail))
        refine wpQuiet_nil ?_
        refine lx_loud (by rfl) (by kernel_rfl) ?_ (fun K hK => ?_)
        · intro L w3 hL hd hcl hC hs
          obtain ⟨x, rfl⟩ := hC
          have hzs := x.size
          have h20 := hcl.off hL 40 20 (by kernel_rfl)
          simp only [hL, h20, cond_false] at hs
          go_wp2
          exact aft_set x hlo ⟨_, rfl⟩ hs 0 (r' := Res.own w6.heap.size 34 1 (.slice (some ⟨x.world.heap.size, 0, none⟩) 0 0) 0 []) rfl (((Ext.refl x.world).alloc _).chg _) (own_empty rfl (by omega)) (fun k hk => .inr (by rw [← own_blk hk]; simp)) (by first | (simp [upd, updv, h20, hL]; done) | (simp [upd, updv, h20, hL]; rfl))
        rw [u13]
        go_simp
        with_reducible refine hK _ ?_
        clear hK K
        refine lx_next 6 (by rfl) (by decide) ?_
        dsimp only [List.take, List.drop]
        repeat (go_big_quiet_step (fail))
        refine wpQuiet_nil ?_
        refine lx_loud (by rfl) (by kernel_rfl) ?_ (fun K hK => ?_)
        · intro L w3 hL hd hcl hC hs
          obtain ⟨x, rfl⟩ := hC
          have hzs := x.size
          have h13 := hd 13 (by kernel_rfl)
          simp only [hL, h13, cond_true, cond_false] at hs
          rw [u13] at hs
          have hX : Ext w6 x.world := Chg.to_ext (Ext.refl w6) x.chg (by rintro i ⟨_, h⟩; exact h)
          refine wp_append_from rfl _ _ 27 34 _ 1 _ rfl info_bed (by kernel_rfl) rfl (by decide) w6.heap.size _ 0 [] rfl (hs.get 0 rfl) ba bs.length bc (bs.map (Value.int .i64)) rfl HBN.out (by simp) (CellsAt.vals (HBE.out.ext hX)) (ints_one _ _) (by omega) (by decide) (by omega) ?_
          intro v' w7 ho4 hC4 hn4
          rw [Nat.zero_add, List.nil_append] at ho4
          obtain ⟨av, ac, rfl⟩ := own_shape ho4
          go_wp2
          exact aft_set x hlo ⟨_, _, rfl⟩ hs 0 rfl hC4 (r' := Res.own w6.heap.size 34 1 (.slice av _ ac) _ _) ho4 hn4 (by first | (simp [upd, updv, h13, hL, u13]; done) | (simp [upd, updv, h13, hL, u13]; rfl))
        rw [u20]
        go_simp
        with_reducible refine hK _ ?_
        clear hK K
        refine lx_loud (by rfl) (by kernel_rfl) ?_ (fun K hK => ?_)
        · intro L w3 hL hd hcl hC hs
          obtain ⟨x, rfl⟩ := hC
          have hzs := x.size
          have h20 := hd 20 (by kernel_rfl)
          simp only [h20, cond_true] at hs
          rw [u20] at hs
          obtain ⟨ca, cc, e, hcl⟩ := own_cells_i (hs.get 0 rfl : World.ownsRow _ _ _ _ _ _ _)
          injection e with e1 e2 e3
          subst e1 e3
          have HJ := Lib.hid (leg_Visit cs cgi cgo ip lp bs a20 c20 x.world hcl HV.out.bi64 (by omega) _ HV.out.vis)
          clear hcl
          have HS5 := Lib.hid hs
          clear hs
          go_wp2_with fail
          refine HJ.out.mono ?_
          rintro e w7 ⟨rfl, hx7⟩
          go_wp2
          exact aft_ext x rfl HS5.out hx7 (by first | (simp [upd, updv, h20, u20]; done) | (simp [upd, updv, h20, hL, u20]; rfl))
        rw [u21]
        go_simp
        with_reducible refine hK _ ?_
        clear hK K
        refine lx_next 3 (by rfl) (by decide) ?_
        dsimp only [List.take, List.drop]
        repeat (go_big_quiet_step (fail))
        refine wpQuiet_nil ?_
        refine lx_loud (by rfl) (by kernel_rfl) ?_ (fun K hK => ?_)
        · intro L w3 hL hd hcl hC hs
          obtain ⟨x, rfl⟩ := hC
          have hzs := x.size
          have h26 := hcl.off hL 40 26 (by kernel_rfl)
          simp only [hL, h26, cond_false] at hs
          go_wp2
          exact aft_set x hlo ⟨_, rfl⟩ hs 1 (r' := Res.blk x.world.heap.size #[.int .i64 0, .int .i64 0, .int .i64 0, .bool false, .bool false, .bool false]) rfl (((Ext.refl x.world).alloc _).chg _) (Blk.new _ _ _) (fun k hk => .inr (by rw [show k = x.world.heap.size from hk]; simp)) (by first | (simp [upd, updv, h26, hL]; done) | (simp [upd, updv, h26, hL]; rfl))
        rw [u25]
        go_simp
        with_reducible refine hK _ ?_
        clear hK K
        refine lx_loud (by rfl) (by kernel_rfl) ?_ (fun K hK => ?_)
        · intro L w3 hL hd hcl hC hs
          obtain ⟨x, rfl⟩ := hC
          have hzs := x.size
          have h25 := hd 25 (by kernel_rfl)
          simp only [hL, h25, cond_true, cond_false] at hs
          rw [u25] at hs
          have hb : Blk x.world k15 #[.int .i64 0, .int .i64 0, .int .i64 0, .bool false, .bool false, .bool false] := hs.get 1 rfl
          have hlt := hb.lt
          have q0 := hb.cell 0 (v := .int .i64 0) rfl
          have f0 := hb.frozen 0
          have q1 := hb.cell 1 (v := .int .i64 0) rfl
          have f1 := hb.frozen 1
          have q2 := hb.cell 2 (v := .int .i64 0) rfl
          have f2 := hb.frozen 2
          have q3 := hb.cell 3 (v := .bool false) rfl
          have f3 := hb.frozen 3
          have q4 := hb.cell 4 (v := .bool false) rfl
          have f4 := hb.frozen 4
          have q5 := hb.cell 5 (v := .bool false) rfl
          have f5 := hb.frozen 5
          go_wp2
          exact aft_set x hlo trivial hs 1 rfl (six_chg (fun k => k = k15) _ rfl _ _ _ _ _ _) (r' := Res.blk k15 #[.int .i64 xl, .int .i64 xsc, .int .i64 bs.length, .bool xi, .bool xb, .bool xw]) (six_set hb _ _ _ _ _ _) (fun _ hk => .inl hk) (by first | (simp [upd, updv, h25, hL, u25, ptrOf]; done) | (simp [upd, updv, h25, hL, u25, ptrOf]; rfl))
        go_simp
        with_reducible refine hK _ ?_
        clear hK K
        refine lx_next 1 (by rfl) (by decide) ?_
        dsimp only [List.take, List.drop]
        repeat (go_big_quiet_step (fail))
        refine wpQuiet_nil ?_
        refine lx_nil ?_
        intro x hs
        rw [u25] at hs
        have hX : Ext w6 x.world := Chg.to_ext (Ext.refl w6) x.chg (by rintro i ⟨_, h⟩; exact h)
        have hF2 : Frm B [Res.own B 3 1 (.slice (some ⟨gs, 0, none⟩) n gc) n (ss.map (Value.int .i64)), Res.own B 3 1 (.slice (some ⟨gl, 0, none⟩) n lc) n (gm.left.map (Value.int .i64)), Res.own B 4 1 (.slice (some ⟨gi, 0, none⟩) n ic) n (gm.inn.map Value.bool), Res.none, Res.blk k15 #[.int .i64 xl, .int .i64 xsc, .int .i64 bs.length, .bool xi, .bool xb, .bool xw]] x.world := HF1.out.both hX (by omega) (rs' := [Res.none, Res.blk k15 #[.int .i64 xl, .int .i64 xsc, .int .i64 bs.length, .bool xi, .bool xb, .bool xw]]) (hs.drop 0)
        have HF2 := Lib.hid hF2
        have HX2 := Lib.hid (hx.trans hX)
        clear hs hF2 hT hne u13 u20 u21 u25 i0 l0 hil hll z0 z1 z2 hcbl
        replace p1 := hX.cell p1
        replace d0 := hX.cell d0
        have hsX := hX.size
        replace hvl : vb < x.world.heap.size := by omega
        replace hl5 : k5 < x.world.heap.size := by omega
        clear p0 m0 hl4
        generalize x.world = w20 at *
        clear x hX
        have hb15 : Blk w20 k15 #[.int .i64 xl, .int .i64 xsc, .int .i64 bs.length, .bool xi, .bool xb, .bool xw] := HF2.out.get 4 rfl
        have b0 := hb15.cell 0 (v := .int .i64 xl) rfl
        have b1 := hb15.cell 1 (v := .int .i64 xsc) rfl
        have b2 := hb15.cell 2 (v := .int .i64 bs.length) rfl
        have b4 := hb15.cell 4 (v := .bool xb) rfl
        have b5 := hb15.cell 5 (v := .bool xw) rfl
        have hbl5 := hb15.lt
        have l0 := own_int_at (HF2.out.get 1 rfl) hpl
        rw [HCL.out] at l0
        have hll := lt_of_cell l0
        simp only at hll
        have hsc := HV.out.score
        have hps0 : decide (xsc < 0) = false := by have := HV.out.pos; simp; omega
        have hwn := HV.out.won
        obtain ⟨hlp0, hlp1⟩ := HV.out.blp
        obtain ⟨hxl0, hxl1⟩ := HV.out.bxl
        have HBU := Lib.hid HV.out.bust
        clear hb15
        go_upto_region 21 with fail
        go_cut [269] from 184 to 289 (fun b wx => b = .bool false ∧ Frm B [Res.own B 3 1 (.slice (some ⟨gs, 0, none⟩) n gc) n (ss.map (Value.int .i64)), Res.own B 3 1 (.slice (some ⟨gl, 0, none⟩) n lc) n (gm.left.map (Value.int .i64)), Res.own B 4 1 (.slice (some ⟨gi, 0, none⟩) n ic) n (gm.inn.map Value.bool), Res.none, Res.blk k15 #[.int .i64 xl, .int .i64 xsc, .int .i64 bs.length, .bool xi, .bool xb, .bool xw]] wx ∧ Ext w2 wx)
        case first =>
          cases xb
          · go_quiet (fail)
            go_wp2
            go_meet
            exact ⟨rfl, HF2.out.ext ((Ext.refl w20).drewN _), (by exact HX2.out.drewN _)⟩
          · have hx0 : (xsc != 0) = false := by rw [HBU.out rfl]; rfl
            go_quiet (fail)
            go_wp2
            go_meet
            exact ⟨rfl, HF2.out.ext ((Ext.refl w20).drewN _), (by exact HX2.out.drewN _)⟩
        case rest =>
          obtain ⟨rfl, hF3, hx3⟩ := hcut
          obtain ⟨w21, rfl⟩ : ∃ x, x = wc := ⟨_, rfl⟩
          have HF3 := Lib.hid hF3
          have HX3 := Lib.hid hx3
          have hsz3 := hx3.size
          obtain ⟨hsp0, hsp1⟩ := HV.out.bsp
          have hxs0 := HV.out.pos
          have hxs1 : xsc ≤ 1001 := by have h1 := HV.out.score; have h2 := HV.out.blp; have h3 := HV.out.bxl; omega
          have hlo : B ≤ w21.heap.size := by omega
          clear hF3 hx3 b0 b1 b2 b4 b5 hbl5 l0 hll hsc hps0 hwn HBU p1 d0 hvl hl5 hsX HF2 HX2
          go_upto_region 23 with fail
          refine wp_region_sep (by kernel_rfl) [.no, .no, .no, .no, .no, .no, .no, .val (.int .i64 xl), .no, .val (.bool xi), .no, .no, .no, .val (.int .i64 sp), .no, .val (.int .i64 xsc), .no, .no, .any, .no, .any, .no, .any] B
            (fun L u => [Res.own B 3 1 (.slice (some ⟨gs, 0, none⟩) n gc) n (bif L 22 then (ss.map (Value.int .i64)).set p (.int .i64 (sp + xsc)) else (ss.map (Value.int .i64))), Res.own B 3 1 (.slice (some ⟨gl, 0, none⟩) n lc) n (bif L 18 then (gm.left.map (Value.int .i64)).set p (.int .i64 xl) else (gm.left.map (Value.int .i64))), Res.own B 4 1 (.slice (some ⟨gi, 0, none⟩) n ic) n (bif L 20 then (gm.inn.map Value.bool).set p (.bool xi) else (gm.inn.map Value.bool)), Res.none, Res.blk k15 #[.int .i64 xl, .int .i64 xsc, .int .i64 bs.length, .bool xi, .bool xb, .bool xw]])
            (by kernel_rfl) (Nat.le_of_ble_eq_true rfl) (fun L L' u hh => by simp only [hh 18 rfl, hh 20 rfl, hh 22 rfl]) (fun _ => HF3.out) ?_
          intro T hT hne u hu
          have u7 : u 7 = .int .i64 xl := hu 7 rfl
          have u9 : u 9 = .bool xi := hu 9 rfl
          have u13 : u 13 = .int .i64 sp := hu 13 rfl
          have u15 : u 15 = .int .i64 xsc := hu 15 rfl
          clear hu
          refine lx_next 7 (by rfl) (by decide) ?_
          dsimp only [List.take, List.drop]
          repeat (go_big_quiet_step (fail))
          refine wpQuiet_nil ?_
          refine lx_loud (by rfl) (by kernel_rfl) ?_ (fun K hK => ?_)
          · intro L w3 hL hd hcl hC hs
            obtain ⟨x, rfl⟩ := hC
            have hzs := x.size
            have h18 := hcl.off hL 40 18 (by kernel_rfl)
            simp only [h18, cond_false] at hs
            have hcc := (hs.get 4 rfl).cell 0 (v := .int .i64 xl) rfl
            have hlt := (hs.get 4 rfl).lt
            go_wp2
            exact aft_same x rfl hs (by first | (simp [upd, h18]; done) | (simp [upd, updv, h18, hL]; rfl))
          rw [u7]
          go_simp
          with_reducible refine hK _ ?_
          clear hK K
          refine lx_next 1 (by rfl) (by decide) ?_
          dsimp only [List.take, List.drop]
          repeat (go_big_quiet_step (fail))
          refine wpQuiet_nil ?_
          refine lx_loud (by rfl) (by kernel_rfl) ?_ (fun K hK => ?_)
          · intro L w3 hL hd hcl hC hs
            obtain ⟨x, rfl⟩ := hC
            have hzs := x.size
            have h20 := hcl.off hL 40 20 (by kernel_rfl)
            simp only [h20, cond_false] at hs
            have hcc := (hs.get 4 rfl).cell 3 (v := .bool xi) rfl
            have hlt := (hs.get 4 rfl).lt
            go_wp2
            exact aft_same x rfl hs (by first | (simp [upd, h20]; done) | (simp [upd, updv, h20, hL]; rfl))
          rw [u9]
          go_simp
          with_reducible refine hK _ ?_
          clear hK K
          refine lx_next 3 (by rfl) (by decide) ?_
          dsimp only [List.take, List.drop]
          repeat (go_big_quiet_step (fail))
          refine wpQuiet_nil ?_
          refine lx_loud (by rfl) (by kernel_rfl) ?_ (fun K hK => ?_)
          · intro L w3 hL hd hcl hC hs
            obtain ⟨x, rfl⟩ := hC
            have hzs := x.size
            have h22 := hcl.off hL 40 22 (by kernel_rfl)
            simp only [h22, cond_false] at hs
            have hcc := own_int_at (hs.get 0 rfl) hps
            rw [HCS.out] at hcc
            have hlt := lt_of_cell hcc
            simp only at hlt
            go_wp2
            exact aft_same x rfl hs (by first | (simp [upd, h22]; done) | (simp [upd, updv, h22, hL]; rfl))
          rw [u13]
          go_simp
          with_reducible refine hK _ ?_
          clear hK K
          refine lx_next 1 (by rfl) (by decide) ?_
          dsimp only [List.take, List.drop]
          repeat (go_big_quiet_step (fail))
          refine wpQuiet_nil ?_
          refine lx_loud (by rfl) (by kernel_rfl) ?_ (fun K hK => ?_)
          · intro L w3 hL hd hcl hC hs
            obtain ⟨x, rfl⟩ := hC
            have hzs := x.size
            have h22 := hcl.off hL 40 22 (by kernel_rfl)
            simp only [h22, cond_false] at hs
            have hcc := (hs.get 4 rfl).cell 1 (v := .int .i64 xsc) rfl
            have hlt := (hs.get 4 rfl).lt
            go_wp2
            exact aft_same x rfl hs (by first | (simp [upd, h22]; done) | (simp [upd, updv, h22, hL]; rfl))
          rw [u15]
          go_simp
          with_reducible refine hK _ ?_
          clear hK K
          refine lx_next 2 (by rfl) (by decide) ?_
          dsimp only [List.take, List.drop]
          repeat (go_big_quiet_step (fail))
          refine wpQuiet_nil ?_
          refine lx_loud (by rfl) (by kernel_rfl) ?_ (fun K hK => ?_)
          · intro L w3 hL hd hcl hC hs
            obtain ⟨x, rfl⟩ := hC
            have hzs := x.size
            simp only [hL, cond_false] at hs
            have hcc := own_int_at (hs.get 1 rfl) hpl
            have hfz := World.ownsRow.frozenAt (hs.get 1 rfl) p
            have hlt := lt_of_cell hcc
            simp only at hlt
            go_wp2
            exact aft_cell x hlo trivial hs 1 rfl rfl (by first | (simp [upd, hL]; done) | (simp [upd, updv, hL]; rfl))
          go_simp
          with_reducible refine hK _ ?_
          clear hK K
          refine lx_next 1 (by rfl) (by decide) ?_
          dsimp only [List.take, List.drop]
          repeat (go_big_quiet_step (fail))
          refine wpQuiet_nil ?_
          refine lx_loud (by rfl) (by kernel_rfl) ?_ (fun K hK => ?_)
          · intro L w3 hL hd hcl hC hs
            obtain ⟨x, rfl⟩ := hC
            have hzs := x.size
            simp only [hL, cond_false] at hs
            have hcc := own_bool_at (hs.get 2 rfl) hpi
            have hfz := World.ownsRow.frozenAt (hs.get 2 rfl) p
            have hlt := lt_of_cell hcc
            simp only at hlt
            go_wp2
            exact aft_cell x hlo trivial hs 2 rfl rfl (by first | (simp [upd, hL]; done) | (simp [upd, updv, hL]; rfl))
          go_simp
          with_reducible refine hK _ ?_
          clear hK K
          refine lx_next 1 (by rfl) (by decide) ?_
          dsimp only [List.take, List.drop]
          repeat (go_big_quiet_step (fail))
          refine wpQuiet_nil ?_
          refine lx_loud (by rfl) (by kernel_rfl) ?_ (fun K hK => ?_)
          · intro L w3 hL hd hcl hC hs
            obtain ⟨x, rfl⟩ := hC
            have hzs := x.size
            simp only [hL, cond_false] at hs
            have hcc := own_int_at (hs.get 0 rfl) hps
            have hfz := World.ownsRow.frozenAt (hs.get 0 rfl) p
            have hlt := lt_of_cell hcc
            simp only at hlt
            go_wp2
            exact aft_cell x hlo trivial hs 0 rfl rfl (by first | (simp [upd, hL]; done) | (simp [upd, updv, hL]; rfl))
          go_simp
          with_reducible refine hK _ ?_
          clear hK K
          refine lx_nil ?_
          intro x hs
          have hs2 : Frm B [Res.own B 3 1 (.slice (some ⟨gs, 0, none⟩) n gc) n ((ss.set p (sp + xsc)).map (Value.int .i64)), Res.own B 3 1 (.slice (some ⟨gl, 0, none⟩) n lc) n (gm'.left.map (Value.int .i64)), Res.own B 4 1 (.slice (some ⟨gi, 0, none⟩) n ic) n (gm'.inn.map Value.bool)] x.world := by
            rw [HV.out.left', HV.out.inn', List.map_set, List.map_set, List.map_set]
            exact hs.left (rs' := [_, _])
          have HS4 := Lib.hid hs2
          have HX4 := Lib.hid (Chg.to_ext HX3.out x.chg (by rintro i ⟨_, h⟩; have h : B ≤ i := h; omega))
          clear hs hs2 hT hne u7 u9 u13 u15 hlo
          generalize x.world = w22 at *
          clear x
          go_wp2
          go_roundw
          case rel => exact ⟨i + 1, gm', ss.set p (sp + xsc), by omega, by go_num, HV.out.next, ⟨by rw [List.length_set]; exact HSS.out.1, HV.out.sums⟩, HS4.out, HX4.out⟩
          case measure => simp [intOf]; omega
      · have hil : i = l.length := by omega
        have hti := HTi.out
        rw [hil] at hti
        have hgm := hti.last HI.out.play
        have hs0 := HSS.out
        rw [hgm] at hs0
        have HSC : Hid (CellsAt w6 .i64 (some ⟨gs, 0, none⟩) ss) := Lib.hid fun j hj => ⟨gs, 0, rfl, by rw [Nat.zero_add]; exact own_int_at (HF1.out.get 0 rfl) hj⟩
        have HS0 := Lib.hid hs0
        clear hil hti hgm hs0
        go_wp2
        go_meet
        exact ⟨ss, HS0.out, HSC.out, HXr.out⟩
end Go.Proofs.Ytocnglplhnhllaa
