/-
  The statement LegTold: the winners, one by one.
-/
import Derived.Test.YtocnglplhnhllaaSex
import Derived.Test.YtocnglplhnhllaaTow
import Derived.Test.YtocnglplhnhllaaKno
import Derived.Deep.DeepCutAuto
namespace Go.Proofs.Ytocnglplhnhllaa
open Go.RowKit Go.BigFrame
attribute [local go_sem] Later.cell Later.frozen Lat.cell Lat.frozen
/-- The rest of a body from a place, where a loop or a choice begins. -/
def codeSeq (n : Nat) : Code → Option Code
  | .block _ c => codeSeq n c
  | .seq (.seq (.region m l d) x) b => if m = n then some (.seq (.seq (.region m l d) x) b) else codeSeq n b
  | .seq _ b => codeSeq n b
  | _ => none
/-- Where it stands. -/
structure ToA where
  k4 : Nat
  k5 : Nat
  pk : Nat
  c1 : Nat
  c30 : Nat
  c31 : Nat
  c32 : Nat
  c33 : Nat
  c34 : Nat
  c35 : Nat
  pc0 : Nat
  pc1 : Nat
  pc2 : Nat
  pc3 : Nat
  a1 : Option Addr
  a30 : Option Addr
  a31 : Option Addr
  a32 : Option Addr
  a33 : Option Addr
  a34 : Option Addr
  a35 : Option Addr
  pa0 : Option Addr
  pa1 : Option Addr
  pa2 : Option Addr
  pa3 : Option Addr
  nx : Int
/-- What stands there. -/
structure ToldW (t : ToA) (r : Rul) (l : List LV) (g : Gm) (E A : List Int) (w : World) : Prop where
  rul : Blk w t.k4 #[.slice t.a1 r.counts.length t.c1, .int .i64 r.first, .int .i64 r.rounds, .bool r.equal]
  tal : Blk w t.k5 #[.slice t.a30 l.length t.c30, .slice t.a31 r.counts.length t.c31, .slice t.a32 r.counts.length t.c32, .slice t.a33 r.counts.length t.c33, .slice t.a34 E.length t.c34, .slice t.a35 E.length t.c35, .int .i64 g.round, .bool g.over]
  sta : Blk w t.pk #[.slice t.pa0 r.counts.length t.pc0, .slice t.pa1 r.counts.length t.pc1, .slice t.pa2 r.counts.length t.pc2, .int .i64 t.nx, .int .i64 g.round, .bool g.over, .slice t.pa3 g.winners.length t.pc3]
  cr : CntsAt w t.a1 r.counts
  vis : VisIn w t.a30 l
  left : CellsAt w .i64 t.a31 g.left
  darts : CellsAt w .i64 t.a32 g.darts
  inn : BoolsAt w t.a33 g.inn
  ended : CellsAt w .i64 t.a34 E
  lasts : CellsAt w .i64 t.a35 A
  sleft : CellsAt w .i64 t.pa0 g.left
  sdarts : CellsAt w .i64 t.pa1 g.darts
  sinn : BoolsAt w t.pa2 g.inn
  swins : CellsAt w .i64 t.pa3 g.winners
theorem ToldW.ext {t : ToA} {r : Rul} {l : List LV} {g : Gm} {E A : List Int} {w w' : World} (h : ToldW t r l g E A w) (hx : Ext w w') : ToldW t r l g E A w' :=
  ⟨h.rul.ext hx, h.tal.ext hx, h.sta.ext hx, h.cr.ext hx, h.vis.ext hx, h.left.ext hx, h.darts.ext hx, h.inn.ext hx, h.ended.ext hx, h.lasts.ext hx, h.sleft.ext hx, h.sdarts.ext hx, h.sinn.ext hx, h.swins.ext hx⟩
/-- Those who have won, of the first p. -/
def winsUp (W : List Int) (p : Nat) : List Int := ((List.range p).map fun (q : Nat) => (q : Int)).filter (fun q => decide (q ∈ W))
theorem winsUp_succ (W : List Int) (p : Nat) : winsUp W (p + 1) = if decide ((p : Int) ∈ W) = true then winsUp W p ++ [(p : Int)] else winsUp W p := by
  unfold winsUp
  rw [List.range_succ, List.map_append, List.filter_append]
  by_cases h : (p : Int) ∈ W <;> simp [h]
theorem winsUp_len (W : List Int) (p : Nat) : (winsUp W p).length ≤ p := by
  unfold winsUp
  exact Nat.le_trans (List.length_filter_le _ _) (by simp)
/-- The sums and what is left are the start. -/
def SumS (r : Rul) (ss left : List Int) : Prop := ∀ p : Nat, p < r.counts.length → ss.getD p 0 + left.getD p 0 = (cntOf r p).start
theorem SumS.set {r : Rul} {ss left : List Int} (h : SumS r ss left) {p : Nat} (hs : p < ss.length) (hl : p < left.length) {s x : Int} (he : s + x = ss.getD p 0 + left.getD p 0) : SumS r (ss.set p s) (left.set p x) := by
  intro q hq
  have hh := h q hq
  simp only [List.getD_eq_getElem?_getD] at hh he ⊢
  by_cases e : p = q
  · subst e
    rw [List.getElem?_set_self hs, List.getElem?_set_self hl]
    simp only [Option.getD_some]
    omega
  · rw [List.getElem?_set_ne e, List.getElem?_set_ne e]
    exact hh
theorem SumS.start {r : Rul} {n : Nat} (hn : n = r.counts.length) : SumS r (List.replicate n 0) (Gm.begin r).left := by
  subst hn
  intro p hp
  simp [Gm.begin, cntOf, List.getD_eq_getElem?_getD, hp]
theorem cnt_start {r : Rul} (hr : r.ok = true) {p : Nat} (hp : p < r.counts.length) : 0 ≤ r.counts[p].start ∧ r.counts[p].start ≤ 1001 := by
  have := cntB_start (Rul.ok_count hr (List.getElem_mem hp))
  omega
theorem TolI.lefts {r : Rul} (hr : r.ok = true) {l : List LV} {g gi : Gm} {E A : List Int} (hT : TalI r l g E A) {i : Nat} (h : TolI r l i gi) : gi.left.length = r.counts.length ∧ gi.inn.length = r.counts.length ∧ ∀ x ∈ gi.left, 0 ≤ x ∧ x ≤ 1001 := by
  obtain ⟨E', A', hT', -⟩ := tal_pre hr _ (l.take i) gi rfl (h 0) (fun v hv => hT.fits v (List.mem_of_mem_take hv))
  exact ⟨hT'.ok.left, hT'.ok.inn, hT'.ok.lefts⟩
set_option maxRecDepth 100000 in
set_option maxHeartbeats 16000000 in
theorem told_end (c : Code) (hc : codeSeq 46 (Try.f8.body.getD .skip) = some c) (t : ToA) (r : Rul) (l : List LV) (g : Gm) (E A : List Int) (wa : Option Addr) (wc : Nat) (w w5 : World)
    (HW : Hid (ToldW t r l g E A w5)) (HWW : Hid (CellsAt w5 .i64 wa g.winners)) (hn : g.winners.length ≤ 1000) (HX : Hid (Ext w w5)) {s0 s1 s2 s3 s4 s6 s7 s8 s9 s10 s11 s12 s13 s14 s15 s16 s18 s19 s20 s21 s22 s23 s24 s25 s26 s27 s28 s29 s30 s31 s32 s33 s34 s35 s36 s37 s38 s39 s40 s41 s42 s43 s44 s45 s46 s47 s48 s49 s50 s51 s52 s53 s54 s55 s56 s57 s58 s59 s60 s61 s62 s63 s64 s65 s66 s67 s68 s69 s70 s71 s72 s73 s74 s75 s76 s77 s78 s79 s80 s81 s82 s83 s84 s85 s86 s87 s88 s89 s90 s91 s92 s93 s94 s95 s96 s97 s98 s99 s100 s101 s102 s103 s104 s105 s106 s107 s108 s109 s110 s111 s112 s113 s114 s115 s116 s117 s118 s119 s120 s121 s122 s123 s124 s125 s126 s127 s128 s129 s130 s131 s132 s133 s134 s135 s136 s137 s138 s139 s140 s141 s142 s143 s144 s145 s146 s147 s148 s149 s150 s151 s152 s153 s154 s155 s156 s157 s158 s159 s160 s161 s162 s163 s164 s165 s166 s167 s168 s169 s170 s171 s172 s173 s174 s175 s176 s177 s178 s179 s180 s181 s182 s183 s184 s185 s186 s187 s188 s189 s190 s191 s192 s193 s194 s195 s196 s197 s198 s199 s200 s201 s202 s203 s204 s205 s206 s207 s208 s209 s210 s211 s212 s213 s214 s215 s216 s217 s218 s219 s220 s221 s222 s223 s224 s225 s226 s227 s228 s229 s230 s231 s232 s233 s234 s235 s236 s237 s238 s239 s240 s241 s242 s243 s244 s245 s246 s247 s248 s249 s250 s251 s252 s253 s254 s255 s256 s257 s258 s259 s260 s261 s262 s263 s264 s265 s266 s267 s268 s269 s270 s271 s272 s273 s274 s275 s276 s277 s278 s279 s280 s281 s282 s283 s284 s285 s286 s287 s288 s289 s290 s291 s292 s293 s294 s295 s296 s297 s298 s299 s300 s301 s302 s303 s304 s305 s306 s307 s308 s309 s310 s311 s312 s313 s314 s315 s316 s317 s318 s319 s320 s321 s322 s323 s324 s325 s326 s327 s328 s329 s330 s331 s332 s333 s334 s335 s336 s337 s338 s339 s340 s341 s342 s343 s344 s345 s346 s347 s348 s349 s350 s351 s352 s353 s354 s355 s356 s357 s358 s359 s360 s361 s362 s363 s364 s365 s366 s367 s368 s369 s370 s371 s372 s373 s374 s375 s376 s377 s378 s379 s380 s381 s382 s383 s384 s385 s386 s387 s388 s389 s390 s391 s392 s393 s394 s395 s396 s397 s398 s399 s400 s401 s402 s403 s404 : Value} :
    c.wp Try.prog (bodyPost Try.prog Try.f8 fun e w' => e = .returned (.bool true) ∧ Ext w w') { tmps := #[s0, s1, s2, s3, s4, .pointer (some ⟨t.pk, 0, none⟩), s6, s7, s8, s9, s10, s11, s12, s13, s14, s15, s16, .slice wa g.winners.length wc, s18, s19, s20, s21, s22, s23, s24, s25, s26, s27, s28, s29, s30, s31, s32, s33, s34, s35, s36, s37, s38, s39, s40, s41, s42, s43, s44, s45, s46, s47, s48, s49, s50, s51, s52, s53, s54, s55, s56, s57, s58, s59, s60, s61, s62, s63, s64, s65, s66, s67, s68, s69, s70, s71, s72, s73, s74, s75, s76, s77, s78, s79, s80, s81, s82, s83, s84, s85, s86, s87, s88, s89, s90, s91, s92, s93, s94, s95, s96, s97, s98, s99, s100, s101, s102, s103, s104, s105, s106, s107, s108, s109, s110, s111, s112, s113, s114, s115, s116, s117, s118, s119, s120, s121, s122, s123, s124, s125, s126, s127, s128, s129, s130, s131, s132, s133, s134, s135, s136, s137, s138, s139, s140, s141, s142, s143, s144, s145, s146, s147, s148, s149, s150, s151, s152, s153, s154, s155, s156, s157, s158, s159, s160, s161, s162, s163, s164, s165, s166, s167, s168, s169, s170, s171, s172, s173, s174, s175, s176, s177, s178, s179, s180, s181, s182, s183, s184, s185, s186, s187, s188, s189, s190, s191, s192, s193, s194, s195, s196, s197, s198, s199, s200, s201, s202, s203, s204, s205, s206, s207, s208, s209, s210, s211, s212, s213, s214, s215, s216, s217, s218, s219, s220, s221, s222, s223, s224, s225, s226, s227, s228, s229, s230, s231, s232, s233, s234, s235, s236, s237, s238, s239, s240, s241, s242, s243, s244, s245, s246, s247, s248, s249, s250, s251, s252, s253, s254, s255, s256, s257, s258, s259, s260, s261, s262, s263, s264, s265, s266, s267, s268, s269, s270, s271, s272, s273, s274, s275, s276, s277, s278, s279, s280, s281, s282, s283, s284, s285, s286, s287, s288, s289, s290, s291, s292, s293, s294, s295, s296, s297, s298, s299, s300, s301, s302, s303, s304, s305, s306, s307, s308, s309, s310, s311, s312, s313, s314, s315, s316, s317, s318, s319, s320, s321, s322, s323, s324, s325, s326, s327, s328, s329, s330, s331, s332, s333, s334, s335, s336, s337, s338, s339, s340, s341, s342, s343, s344, s345, s346, s347, s348, s349, s350, s351, s352, s353, s354, s355, s356, s357, s358, s359, s360, s361, s362, s363, s364, s365, s366, s367, s368, s369, s370, s371, s372, s373, s374, s375, s376, s377, s378, s379, s380, s381, s382, s383, s384, s385, s386, s387, s388, s389, s390, s391, s392, s393, s394, s395, s396, s397, s398, s399, s400, s401, s402, s403, s404], defers := [] } w5 := by
  simp only [Try.f8, Option.getD_some, codeSeq, ↓reduceIte, Nat.reduceEqDiff, Option.some.injEq] at hc
  subst hc
  obtain ⟨k4, k5, pk, c1, c30, c31, c32, c33, c34, c35, pc0, pc1, pc2, pc3, a1, a30, a31, a32, a33, a34, a35, pa0, pa1, pa2, pa3, nx⟩ := t
  dsimp only
  have s6 : w5.cell? ⟨pk, 6, none⟩ = some (.slice pa3 g.winners.length pc3) := HW.out.sta.cell 6 rfl
  have hls : pk < w5.heap.size := HW.out.sta.lt
  have HSW : Hid (CellsAt w5 .i64 pa3 g.winners) := Lib.hid HW.out.swins
  go_wp2_with fail
  go_loopw [23] (fun k wr => ∃ q : Nat, q ≤ g.winners.length ∧ k = .int .i64 q ∧ Ext w5 wr) (fun k _ => g.winners.length - (intOf k).toNat)
  case atStart => exact ⟨0, Nat.zero_le _, rfl, Ext.refl w5⟩
  case round =>
    obtain ⟨q, hq, rfl, hx⟩ := hrel
    have hsz := hx.size
    replace s6 := hx.cell s6
    replace hls : pk < wr.heap.size := by omega
    by_cases hlt : q < g.winners.length
    · obtain ⟨xb, xo, rfl, x0⟩ := HWW.out q hlt
      obtain ⟨yb, yo, rfl, y0⟩ := HSW.out q hlt
      replace x0 := hx.cell x0
      replace y0 := hx.cell y0
      have hxl := lt_of_cell x0
      have hyl := lt_of_cell y0
      simp only at hxl hyl
      generalize g.winners[q] = z at *
      go_wp2
      go_quiet (fail)
      go_wp2
      go_roundw
      case rel => exact ⟨q + 1, by omega, by go_num, (by exact hx.drewN _)⟩
      case measure => simp [intOf]; omega
    · have HXr := Lib.hid (HX.out.trans hx)
      clear hx
      go_wp2_with fail
      refine (law_known _).mono ?_
      rintro e w18 ⟨rfl, hx18⟩
      go_wp2
      go_ret
      exact ⟨rfl, HXr.out.trans hx18⟩
end Go.Proofs.Ytocnglplhnhllaa
namespace Go.Proofs.Ytocnglplhnhllaa
open Go.RowKit Go.BigFrame
attribute [local go_sem] Later.cell Later.frozen Lat.cell Lat.frozen
theorem best_step {b0 : Bool} {L : List Int} {k : Nat} {lp : Int} (hk : k < L.length) (h : (b0 && (L.take k).all (fun x => decide (lp ≤ x))) = true) : (b0 && (L.take (k + 1)).all (fun x => decide (lp ≤ x))) = decide (lp ≤ L[k]) := by
  simp only [Bool.and_eq_true] at h
  rw [List.take_succ_eq_append_getElem hk, List.all_append, h.1, h.2]
  simp
theorem best_stop {b0 : Bool} {L : List Int} {k : Nat} {lp : Int} (h : (b0 && (L.take k).all (fun x => decide (lp ≤ x))) = false) : (b0 && L.all (fun x => decide (lp ≤ x))) = false := by
  rw [← List.take_append_drop k L, List.all_append, ← Bool.and_assoc, h, Bool.false_and]
theorem best_off {b0 : Bool} {L : List Int} {k : Nat} {lp : Int} (h : (b0 && (L.take k).all (fun x => decide (lp ≤ x))) = false) : (b0 && (L.take (k + 1)).all (fun x => decide (lp ≤ x))) = false := by
  by_cases hk : k < L.length
  · rw [List.take_succ_eq_append_getElem hk, List.all_append, ← Bool.and_assoc, h, Bool.false_and]
  · rw [List.take_of_length_le (by omega)] at h ⊢
    exact h
theorem winsUp_all {r : Rul} (hr : r.ok = true) {l : List LV} {g : Gm} {E A : List Int} (hT : TalI r l g E A) : winsUp g.winners r.counts.length = g.winners := wins_all hr hT
set_option maxRecDepth 100000 in
set_option maxHeartbeats 16000000 in
theorem told_wins (c : Code) (hc : codeFrom 24 (Try.f8.body.getD .skip) = some c) (t : ToA) (r : Rul) (l : List LV) (g : Gm) (E A ss : List Int) (n gs gc : Nat) (w w4 : World)
    (HI : Hid (TalI r l g E A)) (HOK : Hid (r.ok = true)) (HN : Hid (n = r.counts.length)) (hn8 : n ≤ 8) (hl60 : l.length ≤ 60) (HSS : Hid (ss.length = r.counts.length ∧ SumS r ss g.left)) (HSC : Hid (CellsAt w4 .i64 (some ⟨gs, 0, none⟩) ss))
    (HW : Hid (ToldW t r l g E A w4)) (HX : Hid (Ext w w4)) {s0 s1 s2 s6 s7 s10 s11 s12 s13 s14 s15 s16 s17 s18 s19 s20 s21 s22 s23 s24 s25 s26 s27 s28 s29 s30 s31 s32 s33 s34 s35 s36 s37 s38 s39 s40 s41 s42 s43 s44 s45 s46 s47 s48 s49 s50 s51 s52 s53 s54 s55 s56 s57 s58 s59 s60 s61 s62 s63 s64 s65 s66 s67 s68 s69 s70 s71 s72 s73 s74 s75 s76 s77 s78 s79 s80 s81 s82 s83 s84 s85 s86 s87 s88 s89 s90 s91 s92 s93 s94 s95 s96 s97 s98 s99 s100 s101 s102 s103 s104 s105 s106 s107 s108 s109 s110 s111 s112 s113 s114 s115 s116 s117 s118 s119 s120 s121 s122 s123 s124 s125 s126 s127 s128 s129 s130 s131 s132 s133 s134 s135 s136 s137 s138 s139 s140 s141 s142 s143 s144 s145 s146 s147 s148 s149 s150 s151 s152 s153 s154 s155 s156 s157 s158 s159 s160 s161 s162 s163 s164 s165 s166 s167 s168 s169 s170 s171 s172 s173 s174 s175 s176 s177 s178 s179 s180 s181 s182 s183 s184 s185 s186 s187 s188 s189 s190 s191 s192 s193 s194 s195 s196 s197 s198 s199 s200 s201 s202 s203 s204 s205 s206 s207 s208 s209 s210 s211 s212 s213 s214 s215 s216 s217 s218 s219 s220 s221 s222 s223 s224 s225 s226 s227 s228 s229 s230 s231 s232 s233 s234 s235 s236 s237 s238 s239 s240 s241 s242 s243 s244 s245 s246 s247 s248 s249 s250 s251 s252 s253 s254 s255 s256 s257 s258 s259 s260 s261 s262 s263 s264 s265 s266 s267 s268 s269 s270 s271 s272 s273 s274 s275 s276 s277 s278 s279 s280 s281 s282 s283 s284 s285 s286 s287 s288 s289 s290 s291 s292 s293 s294 s295 s296 s297 s298 s299 s300 s301 s302 s303 s304 s305 s306 s307 s308 s309 s310 s311 s312 s313 s314 s315 s316 s317 s318 s319 s320 s321 s322 s323 s324 s325 s326 s327 s328 s329 s330 s331 s332 s333 s334 s335 s336 s337 s338 s339 s340 s341 s342 s343 s344 s345 s346 s347 s348 s349 s350 s351 s352 s353 s354 s355 s356 s357 s358 s359 s360 s361 s362 s363 s364 s365 s366 s367 s368 s369 s370 s371 s372 s373 s374 s375 s376 s377 s378 s379 s380 s381 s382 s383 s384 s385 s386 s387 s388 s389 s390 s391 s392 s393 s394 s395 s396 s397 s398 s399 s400 s401 s402 s403 s404 : Value} :
    c.wp Try.prog (bodyPost Try.prog Try.f8 fun e w' => e = .returned (.bool true) ∧ Ext w w') { tmps := #[s0, s1, s2, .pointer (some ⟨t.k4, 0, none⟩), .pointer (some ⟨t.k5, 0, none⟩), .pointer (some ⟨t.pk, 0, none⟩), s6, s7, .int .i64 n, .slice (some ⟨gs, 0, none⟩) n gc, s10, s11, s12, s13, s14, s15, s16, s17, s18, s19, s20, s21, s22, s23, s24, s25, s26, s27, s28, s29, s30, s31, s32, s33, s34, s35, s36, s37, s38, s39, s40, s41, s42, s43, s44, s45, s46, s47, s48, s49, s50, s51, s52, s53, s54, s55, s56, s57, s58, s59, s60, s61, s62, s63, s64, s65, s66, s67, s68, s69, s70, s71, s72, s73, s74, s75, s76, s77, s78, s79, s80, s81, s82, s83, s84, s85, s86, s87, s88, s89, s90, s91, s92, s93, s94, s95, s96, s97, s98, s99, s100, s101, s102, s103, s104, s105, s106, s107, s108, s109, s110, s111, s112, s113, s114, s115, s116, s117, s118, s119, s120, s121, s122, s123, s124, s125, s126, s127, s128, s129, s130, s131, s132, s133, s134, s135, s136, s137, s138, s139, s140, s141, s142, s143, s144, s145, s146, s147, s148, s149, s150, s151, s152, s153, s154, s155, s156, s157, s158, s159, s160, s161, s162, s163, s164, s165, s166, s167, s168, s169, s170, s171, s172, s173, s174, s175, s176, s177, s178, s179, s180, s181, s182, s183, s184, s185, s186, s187, s188, s189, s190, s191, s192, s193, s194, s195, s196, s197, s198, s199, s200, s201, s202, s203, s204, s205, s206, s207, s208, s209, s210, s211, s212, s213, s214, s215, s216, s217, s218, s219, s220, s221, s222, s223, s224, s225, s226, s227, s228, s229, s230, s231, s232, s233, s234, s235, s236, s237, s238, s239, s240, s241, s242, s243, s244, s245, s246, s247, s248, s249, s250, s251, s252, s253, s254, s255, s256, s257, s258, s259, s260, s261, s262, s263, s264, s265, s266, s267, s268, s269, s270, s271, s272, s273, s274, s275, s276, s277, s278, s279, s280, s281, s282, s283, s284, s285, s286, s287, s288, s289, s290, s291, s292, s293, s294, s295, s296, s297, s298, s299, s300, s301, s302, s303, s304, s305, s306, s307, s308, s309, s310, s311, s312, s313, s314, s315, s316, s317, s318, s319, s320, s321, s322, s323, s324, s325, s326, s327, s328, s329, s330, s331, s332, s333, s334, s335, s336, s337, s338, s339, s340, s341, s342, s343, s344, s345, s346, s347, s348, s349, s350, s351, s352, s353, s354, s355, s356, s357, s358, s359, s360, s361, s362, s363, s364, s365, s366, s367, s368, s369, s370, s371, s372, s373, s374, s375, s376, s377, s378, s379, s380, s381, s382, s383, s384, s385, s386, s387, s388, s389, s390, s391, s392, s393, s394, s395, s396, s397, s398, s399, s400, s401, s402, s403, s404], defers := [] } w4 := by
  let Q2 : Exit → Act → World → Prop := bodyPost Try.prog Try.f8 fun _ _ => True
  simp only [Try.f8, Option.getD_some, codeFrom, ↓reduceIte, Nat.reduceEqDiff, Option.some.injEq] at hc
  subst hc
  obtain ⟨k4, k5, pk, c1, c30, c31, c32, c33, c34, c35, pc0, pc1, pc2, pc3, a1, a30, a31, a32, a33, a34, a35, pa0, pa1, pa2, pa3, nx⟩ := t
  dsimp only
  obtain ⟨ov, hov⟩ : ∃ ov, g.over = ov := ⟨_, rfl⟩
  obtain ⟨en, hen⟩ : ∃ en, en = E.length := ⟨_, rfl⟩
  have m0 : w4.cell? ⟨k4, 0, none⟩ = some (.slice a1 n c1) := by rw [HN.out]; exact HW.out.rul.cell 0 rfl
  have hl4 : k4 < w4.heap.size := HW.out.rul.lt
  have d1 : w4.cell? ⟨k5, 1, none⟩ = some (.slice a31 n c31) := by rw [HN.out]; exact HW.out.tal.cell 1 rfl
  have d4 : w4.cell? ⟨k5, 4, none⟩ = some (.slice a34 en c34) := by rw [hen]; exact HW.out.tal.cell 4 rfl
  have d5 : w4.cell? ⟨k5, 5, none⟩ = some (.slice a35 en c35) := by rw [hen]; exact HW.out.tal.cell 5 rfl
  have d7 : w4.cell? ⟨k5, 7, none⟩ = some (.bool ov) := by rw [← hov]; exact HW.out.tal.cell 7 rfl
  have hl5 : k5 < w4.heap.size := HW.out.tal.lt
  have s0 : w4.cell? ⟨pk, 0, none⟩ = some (.slice pa0 n pc0) := by rw [HN.out]; exact HW.out.sta.cell 0 rfl
  have hls : pk < w4.heap.size := HW.out.sta.lt
  have HCR : Hid (CntsAt w4 a1 r.counts) := Lib.hid HW.out.cr
  have HTL : Hid (CellsAt w4 .i64 a31 g.left) := Lib.hid HW.out.left
  have HSL : Hid (CellsAt w4 .i64 pa0 g.left) := Lib.hid HW.out.sleft
  have HTE : Hid (CellsAt w4 .i64 a34 E) := Lib.hid HW.out.ended
  have HTA : Hid (CellsAt w4 .i64 a35 A) := Lib.hid HW.out.lasts
  have HOV := Lib.hid hov
  have HEN := Lib.hid hen
  have he60 : en ≤ 60 := by have := HI.out.bound; omega
  clear hov hen hl60
  go_upto_block 4 with fail
  go_cut [17, 18, 19, 20, 21, 22] from 291 to 381 (fun v _ _ _ _ _ wx => ∃ wa wc, v = .slice wa g.winners.length wc ∧ CellsAt wx .i64 wa g.winners ∧ Ext w4 wx)
  case rest =>
    obtain ⟨wa, wn, rfl, hcl, hx⟩ := hcut
    have hwn : g.winners.length ≤ 1000 := by
      have h := winsUp_len g.winners r.counts.length
      rw [winsUp_all HOK.out HI.out, ← HN.out] at h
      omega
    rename_i K0 a0
    refine a0 _ _ ?_
    exact told_end _ (by kernel_rfl) ⟨k4, k5, pk, c1, c30, c31, c32, c33, c34, c35, pc0, pc1, pc2, pc3, a1, a30, a31, a32, a33, a34, a35, pa0, pa1, pa2, pa3, nx⟩ r l g E A wa wn w wc (Lib.hid (HW.out.ext hx)) (Lib.hid hcl) hwn (Lib.hid (HX.out.trans hx))
  case first =>
    go_wp2_with fail
    go_loopw [17, 18] (fun v pp wr => ∃ p : Nat, p ≤ n ∧ pp = .int .i64 p ∧ OwnI wr w4.heap.size v (winsUp g.winners p) ∧ Ext w4 wr) (fun _ pp _ => n - (intOf pp).toNat)
    case atStart => exact ⟨0, Nat.zero_le _, rfl, (by show OwnI _ _ _ []; exact own_empty (by simp) (by simp)), (Ext.refl w4).alloc _⟩
    case round =>
      obtain ⟨p, hp, rfl, hO, hx⟩ := hrel
      have hsz := hx.size
      replace m0 := hx.cell m0
      replace d1 := hx.cell d1
      replace d4 := hx.cell d4
      replace d5 := hx.cell d5
      replace d7 := hx.cell d7
      replace s0 := hx.cell s0
      replace hl4 : k4 < wr.heap.size := by omega
      replace hl5 : k5 < wr.heap.size := by omega
      replace hls : pk < wr.heap.size := by omega
      obtain ⟨ws, hws⟩ : ∃ ws, winsUp g.winners p = ws := ⟨_, rfl⟩
      have hwl : ws.length ≤ p := by rw [← hws]; exact winsUp_len _ _
      rw [hws] at hO
      have HWS := Lib.hid hws
      obtain ⟨va, vc, rfl, -⟩ := OwnI.cells hO
      have HO := Lib.hid hO
      have HX4 := Lib.hid hx
      clear hws hO
      obtain ⟨w6, rfl⟩ : ∃ x, x = wr := ⟨_, rfl⟩
      by_cases hlt : p < n
      · have hpr : p < r.counts.length := by rw [← HN.out]; exact hlt
        have hpl : p < g.left.length := by rw [HI.out.ok.left]; exact hpr
        have hps : p < ss.length := by rw [HSS.out.1]; exact hpr
        obtain ⟨_, _, e, x0⟩ := HSC.out p hps
        cases e
        rw [Nat.zero_add] at x0
        obtain ⟨yb, yo, rfl, y0⟩ := HSL.out p hpl
        obtain ⟨tb, tq, rfl, t0⟩ := HTL.out p hpl
        obtain ⟨cb, co, rfl, z0, -, -⟩ := HCR.out p hpr
        have hsum : ss[p] + g.left[p] = r.counts[p].start := by
          have := HSS.out.2 p hpr
          simpa [cntOf, List.getD_eq_getElem?_getD, hpr, hpl, hps] using this
        have hst := cnt_start HOK.out hpr
        have hlb := HI.out.ok.lefts _ (List.getElem_mem hpl)
        have hgd : g.left.getD p 0 = g.left[p] := by simp [List.getD_eq_getElem?_getD, hpl]
        have HGD := Lib.hid hgd
        clear hgd
        generalize r.counts[p].start = st at *
        generalize ss[p] = sp at *
        generalize g.left[p] = lp at *
        obtain ⟨hst0, hst1⟩ := hst
        obtain ⟨hlb0, hlb1⟩ := hlb
        replace x0 := hx.cell x0
        replace y0 := hx.cell y0
        replace t0 := hx.cell t0
        replace z0 := hx.cell z0
        have hxl := lt_of_cell x0
        have hyl := lt_of_cell y0
        have htl := lt_of_cell t0
        have hzl := lt_of_cell z0
        simp only at hxl hyl htl hzl
        go_upto_region 28 with fail
        go_quiet (fail)
        obtain ⟨w7, hw7, hx7⟩ : ∃ x, x = w6.drewN _ ∧ Ext w6 x := ⟨_, rfl, (Ext.refl w6).drewN _⟩
        rw [← hw7]
        replace d1 := hx7.cell d1
        replace d4 := hx7.cell d4
        replace d5 := hx7.cell d5
        replace d7 := hx7.cell d7
        replace t0 := hx7.cell t0
        have hsz7 := hx7.size
        replace hl5 : k5 < w7.heap.size := by omega
        replace htl : tb < w7.heap.size := by omega
        have HX7 := Lib.hid hx7
        clear hw7 hx7 m0 s0 x0 y0 z0 hxl hyl hzl hl4 hls
        go_upto_region 30 with fail
        go_cut [19] from 313 to 320 (fun b wx => b = .bool (ov && decide (en = 0)) ∧ wx = w7)
        case first =>
          obtain ⟨eb, heb⟩ : ∃ eb, decide (en = 0) = eb := ⟨_, rfl⟩
          have he0 : ((en : Int) == 0) = eb := by rw [← heb, Bool.eq_iff_iff]; simp
          have HEB := Lib.hid heb
          clear heb
          cases ov
          · go_wp2
            go_meet
            exact ⟨rfl, rfl⟩
          · go_wp2
            go_meet
            exact ⟨by rw [HEB.out]; rfl, rfl⟩
        case rest =>
          obtain ⟨rfl, rfl⟩ := hcut
          obtain ⟨b0, hb0⟩ : ∃ b0, (ov && decide (en = 0)) = b0 := ⟨_, rfl⟩
          rw [hb0]
          have HB0 := Lib.hid hb0
          have HO7 := Lib.hid (HO.out.ext HX7.out)
          clear hb0
          obtain ⟨w8, rfl⟩ : ∃ x, x = wc := ⟨_, rfl⟩
          go_upto_block 6 with fail
          go_cut [19, 20] from 321 to 339 (fun b _ wx => b = .bool (b0 && g.left.all (fun x => decide (lp ≤ x))) ∧ Ext w8 wx)
          case first =>
            go_wp2_with fail
            go_loopw [19, 20] (fun b kk wx => ∃ k : Nat, k ≤ n ∧ kk = .int .i64 k ∧ b = .bool (b0 && (g.left.take k).all (fun x => decide (lp ≤ x))) ∧ Ext w8 wx) (fun _ kk _ => n - (intOf kk).toNat)
            case atStart => exact ⟨0, Nat.zero_le _, rfl, by simp, Ext.refl w8⟩
            case round =>
              obtain ⟨k, hk, rfl, rfl, hx9⟩ := hrel
              replace d1 := hx9.cell d1
              replace t0 := hx9.cell t0
              have hsz9 := hx9.size
              replace hl5 : k5 < wr.heap.size := by omega
              replace htl : tb < wr.heap.size := by omega
              obtain ⟨bb, hbb⟩ : ∃ bb, (b0 && (g.left.take k).all (fun x => decide (lp ≤ x))) = bb := ⟨_, rfl⟩
              rw [hbb]
              have HBB := Lib.hid hbb
              clear hbb d4 d5 d7
              by_cases hkn : k < n
              · have hkl : k < g.left.length := by rw [HI.out.ok.left, ← HN.out]; exact hkn
                cases bb
                · have HX9 := Lib.hid hx9
                  clear hx9
                  go_wp2
                  go_meet
                  exact ⟨by rw [best_stop HBB.out], HX9.out⟩
                · obtain ⟨_, _, e, u0⟩ := HTL.out k hkl
                  cases e
                  replace u0 := hx9.cell (HX7.out.cell (HX4.out.cell u0))
                  have HST := Lib.hid (best_step hkl HBB.out)
                  generalize g.left[k] = y at *
                  go_wp2
                  go_quiet (fail)
                  go_wp2
                  go_roundw
                  case rel => exact ⟨k + 1, by omega, by go_num, by rw [HST.out], (by exact hx9.drewN _)⟩
                  case measure => simp [intOf]; omega
              · have hkl : g.left.length ≤ k := by rw [HI.out.ok.left, ← HN.out]; omega
                have hbb := HBB.out
                rw [List.take_of_length_le hkl] at hbb
                have HBB2 := Lib.hid hbb
                have HX9 := Lib.hid hx9
                clear hx9 hbb
                go_wp2
                go_meet
                exact ⟨by rw [HBB2.out], HX9.out⟩
          case rest =>
            obtain ⟨rfl, hx9⟩ := hcut
            obtain ⟨b1, hb1⟩ : ∃ b1, (b0 && g.left.all (fun x => decide (lp ≤ x))) = b1 := ⟨_, rfl⟩
            rw [hb1]
            have hbest : best0 ov E g.left p = b1 := by
              unfold best0
              rw [HGD.out, ← hb1, ← HB0.out, HEN.out]
            have htb := tol_best HOK.out HI.out hpr
            rw [HOV.out, hbest] at htb
            have HTB := Lib.hid htb
            have HO9 := Lib.hid (HO7.out.ext hx9)
            have HX9 := Lib.hid ((HX4.out.trans HX7.out).trans hx9)
            replace d4 := hx9.cell d4
            replace d5 := hx9.cell d5
            replace d7 := hx9.cell d7
            have hsz9 := hx9.size
            replace hl5 : k5 < wc.heap.size := by omega
            clear hb1 hbest htb d1 t0 htl hx9
            obtain ⟨w10, rfl⟩ : ∃ x, x = wc := ⟨_, rfl⟩
            go_wp2_with fail
            go_loopw [19, 21] (fun b ii wr => ∃ i : Nat, i ≤ en ∧ ii = .int .i64 i ∧ b = .bool (foldB ov A p (E.take i) (A.take i) b1) ∧ Ext w10 wr) (fun _ ii _ => en - (intOf ii).toNat)
            case atStart => exact ⟨0, Nat.zero_le _, rfl, rfl, Ext.refl w10⟩
            case round =>
              obtain ⟨i, hi, rfl, rfl, hxr⟩ := hrel
              replace d4 := hxr.cell d4
              replace d5 := hxr.cell d5
              replace d7 := hxr.cell d7
              have hszr := hxr.size
              replace hl5 : k5 < wr.heap.size := by omega
              obtain ⟨bb, hbb⟩ : ∃ bb, foldB ov A p (E.take i) (A.take i) b1 = bb := ⟨_, rfl⟩
              rw [hbb]
              have HBB := Lib.hid hbb
              have HXr := Lib.hid hxr
              clear hbb
              obtain ⟨w11, rfl⟩ : ∃ x, x = wr := ⟨_, rfl⟩
              by_cases hie : i < en
              · have hiE : i < E.length := by rw [← HEN.out]; exact hie
                have hiA : i < A.length := by rw [HI.out.len]; exact hiE
                obtain ⟨eb, eo, rfl, e0⟩ := HTE.out i hiE
                obtain ⟨ab, ao, rfl, f0⟩ := HTA.out i hiA
                replace e0 := hxr.cell (HX9.out.cell e0)
                replace f0 := hxr.cell (HX9.out.cell f0)
                have hebl := lt_of_cell e0
                have habl := lt_of_cell f0
                simp only at hebl habl
                have hfold : foldB ov A p (E.take (i + 1)) (A.take (i + 1)) b1 = if E[i] = (p : Int) then ov && A.all (fun x => decide (A[i] ≤ x)) else bb := by
                  rw [List.take_succ_eq_append_getElem hiE, List.take_succ_eq_append_getElem hiA, foldB_snoc ov A p _ _ _ _ _ (by rw [List.length_take, List.length_take, HI.out.len]), HBB.out]
                have HFO := Lib.hid hfold
                clear hfold
                generalize E[i] = ei at *
                generalize A[i] = ai at *
                cases hep : (ei == (p : Int))
                · have hne : ¬ ei = (p : Int) := by simpa using hep
                  have HF2 : Hid (foldB ov A p (E.take (i + 1)) (A.take (i + 1)) b1 = bb) := Lib.hid (by rw [HFO.out, if_neg hne])
                  clear hne
                  go_wp2
                  go_roundw
                  case rel => exact ⟨i + 1, by omega, by go_num, by rw [HF2.out], HXr.out⟩
                  case measure => simp [intOf]; omega
                · have heq : ei = (p : Int) := by simpa using hep
                  have HF2 : Hid (foldB ov A p (E.take (i + 1)) (A.take (i + 1)) b1 = (ov && A.all (fun x => decide (ai ≤ x)))) := Lib.hid (by rw [HFO.out, if_pos heq])
                  clear heq hxr
                  go_wp2_with fail
                  go_loopw [19, 22] (fun b kk wr => ∃ k : Nat, k ≤ en ∧ kk = .int .i64 k ∧ b = .bool (ov && (A.take k).all (fun x => decide (ai ≤ x))) ∧ Ext w11 wr) (fun _ kk _ => en - (intOf kk).toNat)
                  case atStart => exact ⟨0, Nat.zero_le _, rfl, by simp, Ext.refl w11⟩
                  case round =>
                    obtain ⟨k, hk, rfl, rfl, hxs⟩ := hrel
                    replace d4 := hxs.cell d4
                    replace d5 := hxs.cell d5
                    replace f0 := hxs.cell f0
                    have hszs := hxs.size
                    replace hl5 : k5 < wr.heap.size := by omega
                    replace habl : ab < wr.heap.size := by omega
                    obtain ⟨cc, hcc⟩ : ∃ cc, (ov && (A.take k).all (fun x => decide (ai ≤ x))) = cc := ⟨_, rfl⟩
                    rw [hcc]
                    have HCC := Lib.hid hcc
                    clear hcc e0 hebl d7
                    by_cases hke : k < en
                    · have hkA : k < A.length := by rw [HI.out.len, ← HEN.out]; exact hke
                      obtain ⟨_, _, e, u0⟩ := HTA.out k hkA
                      cases e
                      replace u0 := hxs.cell (HXr.out.cell (HX9.out.cell u0))
                      cases cc
                      · have HCC2 := Lib.hid (best_off HCC.out)
                        go_wp2
                        go_quiet (fail)
                        go_wp2
                        go_roundw
                        case rel => exact ⟨k + 1, by omega, by go_num, by rw [HCC2.out], (by exact hxs.drewN _)⟩
                        case measure => simp [intOf]; omega
                      · have HCC2 := Lib.hid (best_step hkA HCC.out)
                        generalize A[k] = y at *
                        go_wp2
                        go_quiet (fail)
                        go_wp2
                        go_roundw
                        case rel => exact ⟨k + 1, by omega, by go_num, by rw [HCC2.out], (by exact hxs.drewN _)⟩
                        case measure => simp [intOf]; omega
                    · have hkA : A.length ≤ k := by rw [HI.out.len, ← HEN.out]; omega
                      have hcc := HCC.out
                      rw [List.take_of_length_le hkA] at hcc
                      have HCC2 := Lib.hid hcc
                      have HXs := Lib.hid (HXr.out.trans hxs)
                      clear hcc
                      go_wp2
                      go_roundw
                      case rel => exact ⟨i + 1, by omega, by go_num, by rw [HF2.out, HCC2.out], HXs.out⟩
                      case measure => simp [intOf]; omega
              · have hie2 : i = en := by omega
                have hbb := HBB.out
                rw [List.take_of_length_le (by rw [hie2, HEN.out]; omega), List.take_of_length_le (by rw [hie2, HEN.out, HI.out.len]; omega), HTB.out] at hbb
                have hup : winsUp g.winners (p + 1) = if bb = true then ws ++ [(p : Int)] else ws := by rw [winsUp_succ, HWS.out, hbb]
                have HUP := Lib.hid hup
                have HO11 := Lib.hid (HO9.out.ext hxr)
                have HX11 := Lib.hid (HX9.out.trans hxr)
                have hsz11 := (HX9.out.trans hxr).size
                clear hbb hup hie2 d5 d7 hxr
                cases bb
                · have HUP2 : Hid (winsUp g.winners (p + 1) = ws) := Lib.hid (by rw [HUP.out]; rfl)
                  go_wp2
                  go_roundw
                  case rel => exact ⟨p + 1, by omega, by go_num, by rw [HUP2.out]; exact HO11.out, HX11.out⟩
                  case measure => simp [intOf]; omega
                · have HUP2 : Hid (winsUp g.winners (p + 1) = ws ++ [(p : Int)]) := Lib.hid (by rw [HUP.out]; rfl)
                  go_wp2_with (at_builtin; refine wp_append_i rfl _ _ rfl w4.heap.size (.slice va ws.length vc) ws rfl (HO11.out.ext ((Ext.refl w11).alloc _)) ⟨w11.heap.size, 0, none⟩ 1 (p : Int) rfl (by simp [go_sem]) (by omega) (by simp; omega) ?_)
                  intro v' w12 hO12 hg12
                  obtain ⟨av, ac, rfl, -⟩ := hO12.cells
                  have hfr := HO11.out.from
                  have hE12 : Ext w4 w12 := Ext.grown (HX11.out.alloc _) hg12 (fun i e => hfr i e)
                  have HO12 := Lib.hid hO12
                  have HE12 := Lib.hid hE12
                  clear hfr hE12 hO12 hg12
                  go_wp2
                  go_roundw
                  case rel => exact ⟨p + 1, by omega, by go_num, by rw [HUP2.out]; exact HO12.out, HE12.out⟩
                  case measure => simp [intOf]; omega
      · have hwg : ws = g.winners := by
          rw [← HWS.out, show p = r.counts.length by rw [← HN.out]; omega]
          exact winsUp_all HOK.out HI.out
        subst hwg
        obtain ⟨_, _, e, hcl⟩ := OwnI.cells HO.out
        cases e
        have HCL := Lib.hid hcl
        clear hcl
        go_wp2
        go_meet
        exact ⟨va, vc, rfl, HCL.out, HX4.out⟩
end Go.Proofs.Ytocnglplhnhllaa
