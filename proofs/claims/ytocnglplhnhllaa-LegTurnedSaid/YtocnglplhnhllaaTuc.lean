/-
  The statement LegTurned: the two matches.
-/
import Derived.Test.YtocnglplhnhllaaSex
import Derived.Test.YtocnglplhnhllaaTow
import Derived.Test.YtocnglplhnhllaaKno
import Derived.Deep.DeepCutAuto
import Derived.Test.YtocnglplhnhllaaMaw
namespace Go.Proofs.Ytocnglplhnhllaa
open Go.RowKit Go.BigFrame
attribute [local go_sem] Later.cell Later.frozen Lat.cell Lat.frozen
/-- The rest of a body from a place, where a loop or a choice begins. -/
def codeSeq (n : Nat) : Code → Option Code
  | .block _ c => codeSeq n c
  | .seq (.seq (.region m l d) x) b => if m = n then some (.seq (.seq (.region m l d) x) b) else codeSeq n b
  | .seq _ b => codeSeq n b
  | _ => none
/-- Where it stands. -/
structure ToA where
  k4 : Nat
  k5 : Nat
  pk : Nat
  c1 : Nat
  c30 : Nat
  c31 : Nat
  c32 : Nat
  c33 : Nat
  c34 : Nat
  c35 : Nat
  pc0 : Nat
  pc1 : Nat
  pc2 : Nat
  pc3 : Nat
  a1 : Option Addr
  a30 : Option Addr
  a31 : Option Addr
  a32 : Option Addr
  a33 : Option Addr
  a34 : Option Addr
  a35 : Option Addr
  pa0 : Option Addr
  pa1 : Option Addr
  pa2 : Option Addr
  pa3 : Option Addr
  nx : Int
/-- What stands there. -/
structure ToldW (t : ToA) (r : Rul) (l : List LV) (g : Gm) (E A : List Int) (w : World) : Prop where
  rul : Blk w t.k4 #[.slice t.a1 r.counts.length t.c1, .int .i64 r.first, .int .i64 r.rounds, .bool r.equal]
  tal : Blk w t.k5 #[.slice t.a30 l.length t.c30, .slice t.a31 r.counts.length t.c31, .slice t.a32 r.counts.length t.c32, .slice t.a33 r.counts.length t.c33, .slice t.a34 E.length t.c34, .slice t.a35 E.length t.c35, .int .i64 g.round, .bool g.over]
  sta : Blk w t.pk #[.slice t.pa0 r.counts.length t.pc0, .slice t.pa1 r.counts.length t.pc1, .slice t.pa2 r.counts.length t.pc2, .int .i64 t.nx, .int .i64 g.round, .bool g.over, .slice t.pa3 g.winners.length t.pc3]
  cr : CntsAt w t.a1 r.counts
  vis : VisIn w t.a30 l
  left : CellsAt w .i64 t.a31 g.left
  darts : CellsAt w .i64 t.a32 g.darts
  inn : BoolsAt w t.a33 g.inn
  ended : CellsAt w .i64 t.a34 E
  lasts : CellsAt w .i64 t.a35 A
  sleft : CellsAt w .i64 t.pa0 g.left
  sdarts : CellsAt w .i64 t.pa1 g.darts
  sinn : BoolsAt w t.pa2 g.inn
  swins : CellsAt w .i64 t.pa3 g.winners
theorem ToldW.ext {t : ToA} {r : Rul} {l : List LV} {g : Gm} {E A : List Int} {w w' : World} (h : ToldW t r l g E A w) (hx : Ext w w') : ToldW t r l g E A w' :=
  ⟨h.rul.ext hx, h.tal.ext hx, h.sta.ext hx, h.cr.ext hx, h.vis.ext hx, h.left.ext hx, h.darts.ext hx, h.inn.ext hx, h.ended.ext hx, h.lasts.ext hx, h.sleft.ext hx, h.sdarts.ext hx, h.sinn.ext hx, h.swins.ext hx⟩
/-- Those who have won, of the first p. -/
def winsUp (W : List Int) (p : Nat) : List Int := ((List.range p).map fun (q : Nat) => (q : Int)).filter (fun q => decide (q ∈ W))
theorem winsUp_succ (W : List Int) (p : Nat) : winsUp W (p + 1) = if decide ((p : Int) ∈ W) = true then winsUp W p ++ [(p : Int)] else winsUp W p := by
  unfold winsUp
  rw [List.range_succ, List.map_append, List.filter_append]
  by_cases h : (p : Int) ∈ W <;> simp [h]
theorem winsUp_len (W : List Int) (p : Nat) : (winsUp W p).length ≤ p := by
  unfold winsUp
  exact Nat.le_trans (List.length_filter_le _ _) (by simp)
/-- The sums and what is left are the start. -/
def SumS (r : Rul) (ss left : List Int) : Prop := ∀ p : Nat, p < r.counts.length → ss.getD p 0 + left.getD p 0 = (cntOf r p).start
theorem SumS.set {r : Rul} {ss left : List Int} (h : SumS r ss left) {p : Nat} (hs : p < ss.length) (hl : p < left.length) {s x : Int} (he : s + x = ss.getD p 0 + left.getD p 0) : SumS r (ss.set p s) (left.set p x) := by
  intro q hq
  have hh := h q hq
  simp only [List.getD_eq_getElem?_getD] at hh he ⊢
  by_cases e : p = q
  · subst e
    rw [List.getElem?_set_self hs, List.getElem?_set_self hl]
    simp only [Option.getD_some]
    omega
  · rw [List.getElem?_set_ne e, List.getElem?_set_ne e]
    exact hh
theorem SumS.start {r : Rul} {n : Nat} (hn : n = r.counts.length) : SumS r (List.replicate n 0) (Gm.begin r).left := by
  subst hn
  intro p hp
  simp [Gm.begin, cntOf, List.getD_eq_getElem?_getD, hp]
theorem cnt_start {r : Rul} (hr : r.ok = true) {p : Nat} (hp : p < r.counts.length) : 0 ≤ r.counts[p].start ∧ r.counts[p].start ≤ 1001 := by
  have := cntB_start (Rul.ok_count hr (List.getElem_mem hp))
  omega
theorem TolI.lefts {r : Rul} (hr : r.ok = true) {l : List LV} {g gi : Gm} {E A : List Int} (hT : TalI r l g E A) {i : Nat} (h : TolI r l i gi) : gi.left.length = r.counts.length ∧ gi.inn.length = r.counts.length ∧ ∀ x ∈ gi.left, 0 ≤ x ∧ x ≤ 1001 := by
  obtain ⟨E', A', hT', -⟩ := tal_pre hr _ (l.take i) gi rfl (h 0) (fun v hv => hT.fits v (List.mem_of_mem_take hv))
  exact ⟨hT'.ok.left, hT'.ok.inn, hT'.ok.lefts⟩
set_option maxRecDepth 100000 in
set_option maxHeartbeats 16000000 in
theorem told_end (c : Code) (hc : codeSeq 46 (Try.f8.body.getD .skip) = some c) (t : ToA) (r : Rul) (l : List LV) (g : Gm) (E A : List Int) (wa : Option Addr) (wc : Nat) (w w5 : World)
    (HW : Hid (ToldW t r l g E A w5)) (HWW : Hid (CellsAt w5 .i64 wa g.winners)) (hn : g.winners.length ≤ 1000) (HX : Hid (Ext w w5)) {s0 s1 s2 s3 s4 s6 s7 s8 s9 s10 s11 s12 s13 s14 s15 s16 s18 s19 s20 s21 s22 s23 s24 s25 s26 s27 s28 s29 s30 s31 s32 s33 s34 s35 s36 s37 s38 s39 s40 s41 s42 s43 s44 s45 s46 s47 s48 s49 s50 s51 s52 s53 s54 s55 s56 s57 s58 s59 s60 s61 s62 s63 s64 s65 s66 s67 s68 s69 s70 s71 s72 s73 s74 s75 s76 s77 s78 s79 s80 s81 s82 s83 s84 s85 s86 s87 s88 s89 s90 s91 s92 s93 s94 s95 s96 s97 s98 s99 s100 s101 s102 s103 s104 s105 s106 s107 s108 s109 s110 s111 s112 s113 s114 s115 s116 s117 s118 s119 s120 s121 s122 s123 s124 s125 s126 s127 s128 s129 s130 s131 s132 s133 s134 s135 s136 s137 s138 s139 s140 s141 s142 s143 s144 s145 s146 s147 s148 s149 s150 s151 s152 s153 s154 s155 s156 s157 s158 s159 s160 s161 s162 s163 s164 s165 s166 s167 s168 s169 s170 s171 s172 s173 s174 s175 s176 s177 s178 s179 s180 s181 s182 s183 s184 s185 s186 s187 s188 s189 s190 s191 s192 s193 s194 s195 s196 s197 s198 s199 s200 s201 s202 s203 s204 s205 s206 s207 s208 s209 s210 s211 s212 s213 s214 s215 s216 s217 s218 s219 s220 s221 s222 s223 s224 s225 s226 s227 s228 s229 s230 s231 s232 s233 s234 s235 s236 s237 s238 s239 s240 s241 s242 s243 s244 s245 s246 s247 s248 s249 s250 s251 s252 s253 s254 s255 s256 s257 s258 s259 s260 s261 s262 s263 s264 s265 s266 s267 s268 s269 s270 s271 s272 s273 s274 s275 s276 s277 s278 s279 s280 s281 s282 s283 s284 s285 s286 s287 s288 s289 s290 s291 s292 s293 s294 s295 s296 s297 s298 s299 s300 s301 s302 s303 s304 s305 s306 s307 s308 s309 s310 s311 s312 s313 s314 s315 s316 s317 s318 s319 s320 s321 s322 s323 s324 s325 s326 s327 s328 s329 s330 s331 s332 s333 s334 s335 s336 s337 s338 s339 s340 s341 s342 s343 s344 s345 s346 s347 s348 s349 s350 s351 s352 s353 s354 s355 s356 s357 s358 s359 s360 s361 s362 s363 s364 s365 s366 s367 s368 s369 s370 s371 s372 s373 s374 s375 s376 s377 s378 s379 s380 s381 s382 s383 s384 s385 s386 s387 s388 s389 s390 s391 s392 s393 s394 s395 s396 s397 s398 s399 s400 s401 s402 s403 s404 : Value} :
    c.wp Try.prog (bodyPost Try.prog Try.f8 fun e w' => e = .returned (.bool true) ∧ Ext w w') { tmps := #[s0, s1, s2, s3, s4, .pointer (some ⟨t.pk, 0, none⟩), s6, s7, s8, s9, s10, s11, s12, s13, s14, s15, s16, .slice wa g.winners.length wc, s18, s19, s20, s21, s22, s23, s24, s25, s26, s27, s28, s29, s30, s31, s32, s33, s34, s35, s36, s37, s38, s39, s40, s41, s42, s43, s44, s45, s46, s47, s48, s49, s50, s51, s52, s53, s54, s55, s56, s57, s58, s59, s60, s61, s62, s63, s64, s65, s66, s67, s68, s69, s70, s71, s72, s73, s74, s75, s76, s77, s78, s79, s80, s81, s82, s83, s84, s85, s86, s87, s88, s89, s90, s91, s92, s93, s94, s95, s96, s97, s98, s99, s100, s101, s102, s103, s104, s105, s106, s107, s108, s109, s110, s111, s112, s113, s114, s115, s116, s117, s118, s119, s120, s121, s122, s123, s124, s125, s126, s127, s128, s129, s130, s131, s132, s133, s134, s135, s136, s137, s138, s139, s140, s141, s142, s143, s144, s145, s146, s147, s148, s149, s150, s151, s152, s153, s154, s155, s156, s157, s158, s159, s160, s161, s162, s163, s164, s165, s166, s167, s168, s169, s170, s171, s172, s173, s174, s175, s176, s177, s178, s179, s180, s181, s182, s183, s184, s185, s186, s187, s188, s189, s190, s191, s192, s193, s194, s195, s196, s197, s198, s199, s200, s201, s202, s203, s204, s205, s206, s207, s208, s209, s210, s211, s212, s213, s214, s215, s216, s217, s218, s219, s220, s221, s222, s223, s224, s225, s226, s227, s228, s229, s230, s231, s232, s233, s234, s235, s236, s237, s238, s239, s240, s241, s242, s243, s244, s245, s246, s247, s248, s249, s250, s251, s252, s253, s254, s255, s256, s257, s258, s259, s260, s261, s262, s263, s264, s265, s266, s267, s268, s269, s270, s271, s272, s273, s274, s275, s276, s277, s278, s279, s280, s281, s282, s283, s284, s285, s286, s287, s288, s289, s290, s291, s292, s293, s294, s295, s296, s297, s298, s299, s300, s301, s302, s303, s304, s305, s306, s307, s308, s309, s310, s311, s312, s313, s314, s315, s316, s317, s318, s319, s320, s321, s322, s323, s324, s325, s326, s327, s328, s329, s330, s331, s332, s333, s334, s335, s336, s337, s338, s339, s340, s341, s342, s343, s344, s345, s346, s347, s348, s349, s350, s351, s352, s353, s354, s355, s356, s357, s358, s359, s360, s361, s362, s363, s364, s365, s366, s367, s368, s369, s370, s371, s372, s373, s374, s375, s376, s377, s378, s379, s380, s381, s382, s383, s384, s385, s386, s387, s388, s389, s390, s391, s392, s393, s394, s395, s396, s397, s398, s399, s400, s401, s402, s403, s404], defers := [] } w5 := by
  simp only [Try.f8, Option.getD_some, codeSeq, ↓reduceIte, Nat.reduceEqDiff, Option.some.injEq] at hc
  subst hc
  obtain ⟨k4, k5, pk, c1, c30, c31, c32, c33, c34, c35, pc0, pc1, pc2, pc3, a1, a30, a31, a32, a33, a34, a35, pa0, pa1, pa2, pa3, nx⟩ := t
  dsimp only
  have s6 : w5.cell? ⟨pk, 6, none⟩ = some (.slice pa3 g.winners.length pc3) := HW.out.sta.cell 6 rfl
  have hls : pk < w5.heap.size := HW.out.sta.lt
  have HSW : Hid (CellsAt w5 .i64 pa3 g.winners) := Lib.hid HW.out.swins
  go_wp2_with fail
  go_loopw [23] (fun k wr => ∃ q : Nat, q ≤ g.winners.length ∧ k = .int .i64 q ∧ Ext w5 wr) (fun k _ => g.winners.length - (intOf k).toNat)
  case atStart => exact ⟨0, Nat.zero_le _, rfl, Ext.refl w5⟩
  case round =>
    obtain ⟨q, hq, rfl, hx⟩ := hrel
    have hsz := hx.size
    replace s6 := hx.cell s6
    replace hls : pk < wr.heap.size := by omega
    by_cases hlt : q < g.winners.length
    · obtain ⟨xb, xo, rfl, x0⟩ := HWW.out q hlt
      obtain ⟨yb, yo, rfl, y0⟩ := HSW.out q hlt
      replace x0 := hx.cell x0
      replace y0 := hx.cell y0
      have hxl := lt_of_cell x0
      have hyl := lt_of_cell y0
      simp only at hxl hyl
      generalize g.winners[q] = z at *
      go_wp2
      go_quiet (fail)
      go_wp2
      go_roundw
      case rel => exact ⟨q + 1, by omega, by go_num, (by exact hx.drewN _)⟩
      case measure => simp [intOf]; omega
    · have HXr := Lib.hid (HX.out.trans hx)
      clear hx
      go_wp2_with fail
      refine (law_known _).mono ?_
      rintro e w18 ⟨rfl, hx18⟩
      go_wp2
      go_ret
      exact ⟨rfl, HXr.out.trans hx18⟩
end Go.Proofs.Ytocnglplhnhllaa
namespace Go.Proofs.Ytocnglplhnhllaa
/-- Two states of a match, the players exchanged. -/
structure SwS (x y : Sc) : Prop where
  s0 : y.s0 = x.s1
  s1 : y.s1 = x.s0
  l0 : y.l0 = x.l1
  l1 : y.l1 = x.l0
  ends : (x.winner = -1 ∧ y.winner = -1 ∧ x.first = 1 - y.first ∧ 0 ≤ y.first ∧ y.first ≤ 1) ∨ ((x.winner = 0 ∨ x.winner = 1) ∧ y.winner = 1 - x.winner ∧ x.first = -1 ∧ y.first = -1)
/-- The same match, begun by the other one. -/
def Mt.turn (m : Mt) : Mt := { m with first := 1 - m.first }
/-- What legs there were at least. -/
structure ManyS (m : Mt) (x : Sc) (k : Int) : Prop where
  s0 : 0 ≤ x.s0
  s1 : 0 ≤ x.s1
  l0 : 0 ≤ x.l0
  l1 : 0 ≤ x.l1
  open_ : x.winner < 0 → (x.s0 + x.s1) * m.legs + (x.l0 + x.l1) ≤ k
  shut : 0 ≤ x.winner → m.legs * m.sets ≤ k
theorem sw_add {m : Mt} {x y : Sc} {set p : Int} (h : SwS x y) (hw : x.winner = -1) (hp : p = 0 ∨ p = 1) (hs : 0 ≤ set ∧ set ≤ 1) :
    SwS (m.add x set p).1 (m.turn.add y (1 - set) (1 - p)).1 ∧ (m.turn.add y (1 - set) (1 - p)).2 = 1 - (m.add x set p).2 ∧ 0 ≤ (m.add x set p).2 ∧ (m.add x set p).2 ≤ 1 := by
  obtain ⟨x0, x1, xl0, xl1, xf, xw⟩ := x
  obtain ⟨y0, y1, yl0, yl1, yf, yw⟩ := y
  obtain ⟨h0, h1, h2, h3, h4⟩ := h
  simp only at h0 h1 h2 h3 h4 hw
  subst h0 h1 h2 h3 hw
  have hf : yf = 1 - xf ∧ yw = -1 := by omega
  have hb : 0 ≤ xf ∧ xf ≤ 1 := by omega
  obtain ⟨rfl, rfl⟩ := hf
  have hc : (y0 == m.sets - 1 && y1 == m.sets - 1) = (y1 == m.sets - 1 && y0 == m.sets - 1) := Bool.and_comm _ _
  rcases hp with rfl | rfl
  · simp only [Mt.add, Mt.turn, Mt.has, Sc.up, Sc.legsOf, Int.reduceEq, ↓reduceIte, Int.sub_self, Int.sub_zero]
    rw [hc]
    generalize (if decide (yl1 + 1 < m.legs) = true then false else if (y1 == m.sets - 1 && y0 == m.sets - 1) = true then decide (m.clear ≤ yl1 + 1 - yl0) || yl1 + 1 == m.legs + m.extra else true) = b
    cases b
    · simp only [↓reduceIte]
      exact ⟨⟨rfl, rfl, rfl, rfl, .inl ⟨rfl, rfl, by simp only; omega, by simp only; omega, by simp only; omega⟩⟩, trivial, hs⟩
    · simp only [Bool.true_eq_false, ↓reduceIte]
      split
      · exact ⟨⟨rfl, rfl, rfl, rfl, .inr ⟨.inl rfl, rfl, rfl, rfl⟩⟩, rfl, hs⟩
      · exact ⟨⟨rfl, rfl, rfl, rfl, .inl ⟨rfl, rfl, by simp only; omega, by simp only; omega, by simp only; omega⟩⟩, rfl, by simp only; omega, by simp only; omega⟩
  · simp only [Mt.add, Mt.turn, Mt.has, Sc.up, Sc.legsOf, Int.reduceEq, ↓reduceIte, Int.sub_self, Int.sub_zero]
    rw [hc]
    generalize (if decide (yl0 + 1 < m.legs) = true then false else if (y1 == m.sets - 1 && y0 == m.sets - 1) = true then decide (m.clear ≤ yl0 + 1 - yl1) || yl0 + 1 == m.legs + m.extra else true) = b
    cases b
    · simp only [↓reduceIte]
      exact ⟨⟨rfl, rfl, rfl, rfl, .inl ⟨rfl, rfl, by simp only; omega, by simp only; omega, by simp only; omega⟩⟩, trivial, hs⟩
    · simp only [Bool.true_eq_false, ↓reduceIte]
      split
      · exact ⟨⟨rfl, rfl, rfl, rfl, .inr ⟨.inr rfl, rfl, rfl, rfl⟩⟩, rfl, hs⟩
      · exact ⟨⟨rfl, rfl, rfl, rfl, .inl ⟨rfl, rfl, by simp only; omega, by simp only; omega, by simp only; omega⟩⟩, rfl, by simp only; omega, by simp only; omega⟩
theorem many_add {m : Mt} {x : Sc} {set p k : Int} (hl : 1 ≤ m.legs) (h : ManyS m x k) (hw : x.winner = -1) (hp : p = 0 ∨ p = 1) : ManyS m (m.add x set p).1 (k + 1) := by
  obtain ⟨x0, x1, xl0, xl1, xf, xw⟩ := x
  obtain ⟨h0, h1, h2, h3, h4, h5⟩ := h
  simp only at h0 h1 h2 h3 h4 h5 hw
  subst hw
  have h6 := h4 (by omega)
  have e0 : (x0 + 1 + x1) * m.legs = (x0 + x1) * m.legs + m.legs := by rw [show x0 + 1 + x1 = (x0 + x1) + 1 by omega, Int.add_mul, Int.one_mul]
  have e1 : (x0 + (x1 + 1)) * m.legs = (x0 + x1) * m.legs + m.legs := by rw [show x0 + (x1 + 1) = (x0 + x1) + 1 by omega, Int.add_mul, Int.one_mul]
  have n0 : 0 ≤ x0 * m.legs := Int.mul_nonneg h0 (by omega)
  have n1 : 0 ≤ x1 * m.legs := Int.mul_nonneg h1 (by omega)
  have ea : (x0 + x1) * m.legs = x0 * m.legs + x1 * m.legs := Int.add_mul _ _ _
  rcases hp with rfl | rfl
  · simp only [Mt.add, Mt.has, Sc.up, Sc.legsOf, Int.reduceEq, ↓reduceIte, Int.sub_zero]
    by_cases hlt : xl0 + 1 < m.legs
    · simp only [hlt, decide_true, ↓reduceIte]
      exact ⟨h0, h1, by simp only; omega, h3, fun _ => by simp only; omega, fun h => by simp only at h; omega⟩
    · simp only [hlt, decide_false, Bool.false_eq_true, ↓reduceIte]
      generalize (if (x0 == m.sets - 1 && x1 == m.sets - 1) = true then decide (m.clear ≤ xl0 + 1 - xl1) || xl0 + 1 == m.legs + m.extra else true) = b
      cases b
      · simp only [↓reduceIte]
        exact ⟨h0, h1, by simp only; omega, h3, fun _ => by simp only; omega, fun h => by simp only at h; omega⟩
      · simp only [Bool.true_eq_false, ↓reduceIte]
        split
        · rename_i he
          have he : x0 + 1 = m.sets := by simpa using he
          have em : m.legs * m.sets = x0 * m.legs + m.legs := by rw [← he, Int.mul_comm, Int.add_mul, Int.one_mul]
          exact ⟨by simp only; omega, h1, by simp only; omega, h3, fun h => by simp only at h; omega, fun _ => by omega⟩
        · exact ⟨by simp only; omega, h1, Int.le_refl _, Int.le_refl _, fun _ => by simp only; rw [e0]; omega, fun h => by simp only at h; omega⟩
  · simp only [Mt.add, Mt.has, Sc.up, Sc.legsOf, Int.reduceEq, ↓reduceIte, Int.sub_self]
    by_cases hlt : xl1 + 1 < m.legs
    · simp only [hlt, decide_true, ↓reduceIte]
      exact ⟨h0, h1, h2, by simp only; omega, fun _ => by simp only; omega, fun h => by simp only at h; omega⟩
    · simp only [hlt, decide_false, Bool.false_eq_true, ↓reduceIte]
      generalize (if (x0 == m.sets - 1 && x1 == m.sets - 1) = true then decide (m.clear ≤ xl1 + 1 - xl0) || xl1 + 1 == m.legs + m.extra else true) = b
      cases b
      · simp only [↓reduceIte]
        exact ⟨h0, h1, h2, by simp only; omega, fun _ => by simp only; omega, fun h => by simp only at h; omega⟩
      · simp only [Bool.true_eq_false, ↓reduceIte]
        split
        · rename_i he
          have he : x1 + 1 = m.sets := by simpa using he
          have em : m.legs * m.sets = x1 * m.legs + m.legs := by rw [← he, Int.mul_comm, Int.add_mul, Int.one_mul]
          exact ⟨h0, by simp only; omega, h2, by simp only; omega, fun h => by simp only at h; omega, fun _ => by omega⟩
        · exact ⟨h0, by simp only; omega, Int.le_refl _, Int.le_refl _, fun _ => by simp only; rw [e1]; omega, fun h => by simp only at h; omega⟩
/-- What two matches come to, the players exchanged. -/
structure TurnS (m : Mt) (S T : Sc × Int × Int) : Prop where
  at_ : T.2.1 = S.2.1
  err : T.2.2 = S.2.2
  bad : S.2.2 ≠ 0 → S.2.2 = 33 ∧ m.legs * m.sets ≤ S.2.1
  good : S.2.2 = 0 → SwS S.1 T.1
theorem sw_mat {m : Mt} (hl : 1 ≤ m.legs) : ∀ (l : List Int) (i : Int) (x y : Sc) (set : Int), (∀ p ∈ l, p = 0 ∨ p = 1) → SwS x y → ManyS m x i → (0 ≤ set ∧ set ≤ 1) →
    TurnS m (matE (matW m l i x set)) (matE (matW m.turn (l.map fun p => 1 - p) i y (1 - set)))
  | [], i, x, y, set, _, h, _, _ => ⟨rfl, rfl, fun h => absurd rfl h, fun _ => h⟩
  | p :: l, i, x, y, set, hp, h, hm, hs => by
    simp only [List.map_cons, matW]
    have hw := h.ends
    by_cases hx : 0 ≤ x.winner
    · rw [if_pos (by simpa using hx), if_pos (by simp; omega)]
      exact ⟨rfl, rfl, fun _ => ⟨rfl, hm.shut hx⟩, fun h => by cases h⟩
    · have hp0 := hp p List.mem_cons_self
      have hi0 : ¬ ins 0 1 [p] = false := by rw [Bool.not_eq_false, ins_one]; omega
      have hi1 : ¬ ins 0 1 [1 - p] = false := by rw [Bool.not_eq_false, ins_one]; omega
      have hy : ¬ decide (0 ≤ y.winner) = true := by simp only [decide_eq_true_eq]; omega
      rw [if_neg (by simpa using hx), if_neg hi0, if_neg hy, if_neg hi1]
      obtain ⟨h1, h2, h3⟩ := sw_add (m := m) (set := set) h (by omega) hp0 hs
      rw [h2]
      exact sw_mat hl l (i + 1) _ _ _ (fun q hq => hp q (List.mem_cons_of_mem _ hq)) h1 (many_add hl hm (by omega) hp0) h3
theorem sw_matS {m : Mt} (hm : m.ok = true) {l : List Int} (hp : ∀ p ∈ l, p = 0 ∨ p = 1) : TurnS m (matS m l) (matS m.turn (l.map fun p => 1 - p)) := by
  have hb := Mt.ok_bounds hm
  have ht : m.turn.ok = true := by
    unfold Mt.ok at hm ⊢
    simp only [Bool.and_eq_true, ins_one] at hm ⊢
    simp only [Mt.turn]
    omega
  unfold matS
  rw [if_neg (by rw [hm]; simp), if_neg (by rw [ht]; simp)]
  refine sw_mat hb.1.1.1 l 0 _ _ _ hp ⟨rfl, rfl, rfl, rfl, .inl ⟨rfl, rfl, ?_⟩⟩ ⟨Int.le_refl _, Int.le_refl _, Int.le_refl _, Int.le_refl _, fun _ => by simp, fun h => by simp only at h; omega⟩ (by omega)
  simp only [Mt.turn]
  omega
end Go.Proofs.Ytocnglplhnhllaa
namespace Go.Proofs.Ytocnglplhnhllaa
open Go.RowKit Go.BigFrame
attribute [local go_sem] Later.cell Later.frozen Lat.cell Lat.frozen run_eql_pair run_guard_pair run_equal_pair10
theorem Frm.madeB {lo : Nat} {rs : List Res} {w : World} (h : Frm lo rs w) (e : TypeId) (cs : Array Value) (hlo : lo ≤ w.heap.size) : Frm lo (rs ++ [Res.blk w.heap.size cs]) (w.alloc (.cells cs e)) := by
  refine h.both ((Ext.refl w).alloc _) hlo (rs' := [_]) ⟨fun i r hr => ?_, fun i j r s hi hj hij => ?_⟩
  · have hi := (List.getElem?_eq_some_iff.1 hr).1
    obtain rfl : i = 0 := by simpa using hi
    cases hr
    refine ⟨Blk.new _ _ _, fun k hk => ?_⟩
    rw [show k = w.heap.size from hk]
    simp
  · have h1 := (List.getElem?_eq_some_iff.1 hi).1
    have h2 := (List.getElem?_eq_some_iff.1 hj).1
    simp at h1 h2
    omega
def oneS (off : List Int) (k : Nat) : List Int := (off.take k).map fun x => x % 2
def twoS (off : List Int) (k : Nat) : List Int := (off.take k).map fun x => 1 - x % 2
theorem oneS_len {off : List Int} {k : Nat} (h : k ≤ off.length) : (oneS off k).length = k ∧ (twoS off k).length = k := by
  unfold oneS twoS
  simp
  omega
theorem oneS_succ {off : List Int} {k : Nat} (h : k < off.length) : oneS off (k + 1) = oneS off k ++ [off[k] % 2] ∧ twoS off (k + 1) = twoS off k ++ [1 - off[k] % 2] := by
  unfold oneS twoS
  rw [List.take_succ_eq_append_getElem h, List.map_append, List.map_append]
  exact ⟨rfl, rfl⟩
theorem oneS_all (off : List Int) (k : Nat) : (∀ p ∈ oneS off k, p = 0 ∨ p = 1) ∧ twoS off k = (oneS off k).map fun p => 1 - p := by
  unfold oneS twoS
  refine ⟨fun p hp => ?_, by rw [List.map_map]; rfl⟩
  obtain ⟨x, _, rfl⟩ := List.mem_map.1 hp
  omega
set_option maxRecDepth 100000 in
set_option maxHeartbeats 16000000 in
theorem turned_match (c : Code) (hc : codeFrom 35 (Try.f11.body.getD .skip) = some c) (off : List Int) (oa : Option Addr) (oc km : Nat) (m0 m1 m2 m3 m4 : Int) (w w5 : World)
    (HM : Hid (Blk w5 km #[.int .u8 m0, .int .u8 m1, .int .u8 m2, .int .u8 m3, .int .u8 m4])) (h1 : 0 ≤ m1 ∧ m1 ≤ 255) (h2 : 0 ≤ m2 ∧ m2 ≤ 255) (h3 : 0 ≤ m3 ∧ m3 ≤ 255) (h4 : 0 ≤ m4 ∧ m4 ≤ 255)
    (HO : Hid (CellsAt w5 .u8 oa off)) (ho : off.length ≤ 300) (HOB : Hid (∀ x ∈ off, 0 ≤ x ∧ x ≤ 255)) (HX : Hid (Ext w w5)) {s0 s2 s3 s4 s6 s7 s8 s9 s10 s11 s12 s13 s14 s15 s16 s17 s18 s19 s20 s21 s22 s23 s24 s25 s26 s27 s28 s29 s30 s31 s32 s33 s34 s35 s36 s37 s38 s39 s40 s41 s42 s43 s44 s45 s46 s47 s48 s49 s50 s51 s52 s53 s54 s55 s56 s57 s58 s59 s60 s61 s62 s63 s64 s65 s66 s67 s68 s69 s70 s71 s72 s73 s74 s75 s76 s77 s78 s79 s80 s81 s82 s83 s84 s85 s86 s87 s88 s89 s90 s91 s92 s93 s94 s95 s96 s97 s98 s99 s100 s101 s102 s103 s104 s105 s106 s107 s108 s109 s110 s111 s112 s113 s114 s115 s116 s117 s118 s119 s120 s121 s122 s123 s124 s125 s126 s127 s128 s129 s130 s131 s132 s133 s134 s135 s136 s137 s138 s139 s140 s141 s142 s143 s144 s145 s146 s147 s148 s149 s150 s151 s152 s153 s154 s155 s156 s157 s158 s159 s160 s161 s162 s163 s164 s165 s166 s167 s168 s169 s170 s171 s172 s173 s174 s175 s176 s177 s178 s179 s180 s181 s182 s183 s184 s185 s186 s187 s188 s189 s190 s191 s192 s193 s194 s195 s196 s197 s198 s199 s200 s201 s202 s203 s204 s205 s206 s207 s208 s209 s210 s211 s212 s213 s214 s215 s216 s217 s218 s219 s220 s221 s222 s223 s224 s225 s226 s227 s228 s229 s230 s231 s232 s233 s234 s235 s236 s237 s238 s239 s240 s241 s242 s243 s244 s245 s246 s247 s248 s249 s250 s251 s252 s253 s254 s255 s256 s257 s258 s259 s260 s261 s262 s263 s264 s265 s266 s267 s268 s269 s270 s271 s272 s273 s274 s275 s276 s277 s278 s279 s280 s281 s282 s283 s284 s285 s286 s287 s288 s289 s290 s291 s292 s293 s294 s295 s296 s297 s298 s299 s300 s301 s302 s303 s304 s305 s306 s307 s308 s309 s310 s311 s312 s313 s314 s315 s316 s317 s318 s319 s320 s321 s322 s323 s324 s325 s326 s327 s328 s329 s330 s331 s332 s333 s334 s335 s336 s337 s338 s339 s340 s341 s342 s343 s344 s345 s346 s347 s348 s349 s350 s351 s352 s353 s354 s355 s356 s357 s358 s359 s360 s361 s362 s363 s364 s365 s366 s367 s368 s369 s370 s371 s372 s373 s374 s375 s376 s377 s378 s379 s380 s381 : Value} :
    c.wp Try.prog (bodyPost Try.prog Try.f11 fun e w' => e = .returned (.bool true) ∧ Ext w w') { tmps := #[s0, .slice oa off.length oc, s2, s3, s4, .pointer (some ⟨km, 0, none⟩), s6, s7, s8, s9, s10, s11, s12, s13, s14, s15, s16, s17, s18, s19, s20, s21, s22, s23, s24, s25, s26, s27, s28, s29, s30, s31, s32, s33, s34, s35, s36, s37, s38, s39, s40, s41, s42, s43, s44, s45, s46, s47, s48, s49, s50, s51, s52, s53, s54, s55, s56, s57, s58, s59, s60, s61, s62, s63, s64, s65, s66, s67, s68, s69, s70, s71, s72, s73, s74, s75, s76, s77, s78, s79, s80, s81, s82, s83, s84, s85, s86, s87, s88, s89, s90, s91, s92, s93, s94, s95, s96, s97, s98, s99, s100, s101, s102, s103, s104, s105, s106, s107, s108, s109, s110, s111, s112, s113, s114, s115, s116, s117, s118, s119, s120, s121, s122, s123, s124, s125, s126, s127, s128, s129, s130, s131, s132, s133, s134, s135, s136, s137, s138, s139, s140, s141, s142, s143, s144, s145, s146, s147, s148, s149, s150, s151, s152, s153, s154, s155, s156, s157, s158, s159, s160, s161, s162, s163, s164, s165, s166, s167, s168, s169, s170, s171, s172, s173, s174, s175, s176, s177, s178, s179, s180, s181, s182, s183, s184, s185, s186, s187, s188, s189, s190, s191, s192, s193, s194, s195, s196, s197, s198, s199, s200, s201, s202, s203, s204, s205, s206, s207, s208, s209, s210, s211, s212, s213, s214, s215, s216, s217, s218, s219, s220, s221, s222, s223, s224, s225, s226, s227, s228, s229, s230, s231, s232, s233, s234, s235, s236, s237, s238, s239, s240, s241, s242, s243, s244, s245, s246, s247, s248, s249, s250, s251, s252, s253, s254, s255, s256, s257, s258, s259, s260, s261, s262, s263, s264, s265, s266, s267, s268, s269, s270, s271, s272, s273, s274, s275, s276, s277, s278, s279, s280, s281, s282, s283, s284, s285, s286, s287, s288, s289, s290, s291, s292, s293, s294, s295, s296, s297, s298, s299, s300, s301, s302, s303, s304, s305, s306, s307, s308, s309, s310, s311, s312, s313, s314, s315, s316, s317, s318, s319, s320, s321, s322, s323, s324, s325, s326, s327, s328, s329, s330, s331, s332, s333, s334, s335, s336, s337, s338, s339, s340, s341, s342, s343, s344, s345, s346, s347, s348, s349, s350, s351, s352, s353, s354, s355, s356, s357, s358, s359, s360, s361, s362, s363, s364, s365, s366, s367, s368, s369, s370, s371, s372, s373, s374, s375, s376, s377, s378, s379, s380, s381], defers := [] } w5 := by
  simp only [Try.f11, Option.getD_some, codeFrom, ↓reduceIte, Nat.reduceEqDiff, Option.some.injEq] at hc
  subst hc
  obtain ⟨h10, h11⟩ := h1
  obtain ⟨h20, h21⟩ := h2
  obtain ⟨h30, h31⟩ := h3
  obtain ⟨h40, h41⟩ := h4
  have e1 := HM.out.cell 1 (v := .int .u8 m1) rfl
  have e2 := HM.out.cell 2 (v := .int .u8 m2) rfl
  have e3 := HM.out.cell 3 (v := .int .u8 m3) rfl
  have e4 := HM.out.cell 4 (v := .int .u8 m4) rfl
  have hml := HM.out.lt
  obtain ⟨ml, hml⟩ : ∃ x, 1 + m1 % 5 = x := ⟨_, rfl⟩
  obtain ⟨ms, hms⟩ : ∃ x, 1 + m2 % 4 = x := ⟨_, rfl⟩
  obtain ⟨mc, hmc⟩ : ∃ x, 1 + m3 % 2 = x := ⟨_, rfl⟩
  obtain ⟨mx, hmx⟩ : ∃ x, m3 / 2 % 4 = x := ⟨_, rfl⟩
  obtain ⟨mf, hmf⟩ : ∃ x, m4 % 2 = x := ⟨_, rfl⟩
  have bl : 1 ≤ ml ∧ ml ≤ 5 := by omega
  have bs : 1 ≤ ms ∧ ms ≤ 4 := by omega
  have bc : 1 ≤ mc ∧ mc ≤ 2 := by omega
  have bx : 0 ≤ mx ∧ mx ≤ 3 := by omega
  have bf : 0 ≤ mf ∧ mf ≤ 1 := by omega
  have HL := Lib.hid hml
  have HS := Lib.hid hms
  have HC := Lib.hid hmc
  have HE := Lib.hid hmx
  have HF := Lib.hid hmf
  clear hml hms hmc hmx hmf
  go_upto_region 36 with fail
  rw [HL.out, HS.out, HC.out, HE.out, HF.out]
  have hb25 := Blk.new w5 #[.int .i64 ml, .int .i64 ms, .int .i64 mc, .int .i64 mx, .int .i64 mf] 68
  have hx6 := (Ext.refl w5).alloc (.cells #[.int .i64 ml, .int .i64 ms, .int .i64 mc, .int .i64 mx, .int .i64 mf] 68)
  obtain ⟨w6, hw6⟩ : ∃ x, x = w5.alloc (.cells #[.int .i64 ml, .int .i64 ms, .int .i64 mc, .int .i64 mx, .int .i64 mf] 68) := ⟨_, rfl⟩
  rw [← hw6] at hb25 hx6 ⊢
  obtain ⟨k25, hk25⟩ : ∃ k, k = w5.heap.size := ⟨_, rfl⟩
  rw [← hk25] at hb25 ⊢
  have HB25 := Lib.hid hb25
  have HX6 := Lib.hid hx6
  have q0 := hb25.cell 0 (v := .int .i64 ml) rfl
  have q1 := hb25.cell 1 (v := .int .i64 ms) rfl
  have q2 := hb25.cell 2 (v := .int .i64 mc) rfl
  have q3 := hb25.cell 3 (v := .int .i64 mx) rfl
  have q4 := hb25.cell 4 (v := .int .i64 mf) rfl
  have hq := hb25.lt
  obtain ⟨bf0, bf1⟩ := bf
  clear hb25 hx6 hw6 hk25 e1 e2 e3 e4 hml h10 h11 h20 h21 h30 h31 h40 h41
  go_upto_region 37 with fail
  have hB0 : w6.heap.size ≤ w6.heap.size := Nat.le_refl _
  have hz1 : (w6.alloc (.cells #[] 3)).heap.size = w6.heap.size + 1 := by simp
  have hz2 : ((w6.alloc (.cells #[] 3)).alloc (.cells #[] 3)).heap.size = w6.heap.size + 1 + 1 := by simp
  have hF1 := (Frm.nones w6.heap.size 0 w6).made 3 #[] (base := w6.heap.size) (size := 1) (m := 0) hB0 (by decide) rfl hB0
  have hF2 := hF1.made 3 #[] (base := w6.heap.size) (size := 1) (m := 0) (by omega) (by decide) rfl (by omega)
  have hF3 := hF2.madeB 68 #[.int .i64 ml, .int .i64 ms, .int .i64 mc, .int .i64 mx, .int .i64 mf] (by omega)
  have hx7 : Ext w6 (((w6.alloc (.cells #[] 3)).alloc (.cells #[] 3)).alloc (.cells #[.int .i64 ml, .int .i64 ms, .int .i64 mc, .int .i64 mx, .int .i64 mf] 68)) := (((Ext.refl w6).alloc _).alloc _).alloc _
  rw [hz1, hz2] at hF3
  generalize hw7 : ((w6.alloc (.cells #[] 3)).alloc (.cells #[] 3)).alloc (.cells #[.int .i64 ml, .int .i64 ms, .int .i64 mc, .int .i64 mx, .int .i64 mf] 68) = w7 at *
  clear hF1 hF2 hz1 hz2 hw7 hB0
  obtain ⟨B, hB⟩ : ∃ B, B = w6.heap.size := ⟨_, rfl⟩
  rw [← hB] at hF3 ⊢
  obtain ⟨gb, hgb⟩ : ∃ gb, gb = B + 1 := ⟨_, rfl⟩
  obtain ⟨k26, hk26⟩ : ∃ k, k = B + 1 + 1 := ⟨_, rfl⟩
  rw [← hk26, ← hgb]
  have hF4 : Frm B [Res.own B 3 1 (.slice (some ⟨B, 0, none⟩) 0 0) 0 [], Res.own B 3 1 (.slice (some ⟨gb, 0, none⟩) 0 0) 0 [], Res.blk k26 #[.int .i64 ml, .int .i64 ms, .int .i64 mc, .int .i64 mx, .int .i64 mf]] w7 := by
    subst hgb hk26
    exact hF3
  have hB1 : B ≤ w6.heap.size := by omega
  have hB2 : w6.heap.size ≤ B := by omega
  have hb26 : Blk w7 k26 #[.int .i64 ml, .int .i64 ms, .int .i64 mc, .int .i64 mx, .int .i64 mf] := hF4.get 2 rfl
  have f26 := hb26.frozen 4
  have c26 := hb26.cell 4 (v := .int .i64 mf) rfl
  have hk := hb26.lt
  replace q4 := hx7.cell q4
  have hsz7 := hx7.size
  replace hq : k25 < w7.heap.size := by omega
  have hF5 := hF4.store (j := 4) 2 rfl (.int .i64 (1 - mf)) (by omega : B ≤ w7.heap.size)
  have hx8 : Ext w6 (w7.setCell ⟨k26, 4, none⟩ (.int .i64 (1 - mf))) := hx7.setCell (p := ⟨k26, 4, none⟩) (by show _ ≤ k26; omega) _
  have HF5 : Hid (Frm B [Res.own B 3 1 (.slice (some ⟨B, 0, none⟩) 0 0) 0 [], Res.own B 3 1 (.slice (some ⟨gb, 0, none⟩) 0 0) 0 [], Res.blk k26 #[.int .i64 ml, .int .i64 ms, .int .i64 mc, .int .i64 mx, .int .i64 (1 - mf)]] (w7.setCell ⟨k26, 4, none⟩ (.int .i64 (1 - mf)))) := Lib.hid hF5
  have HX8 := Lib.hid hx8
  clear hB hgb hk26 hF3 hF4 hF5 hx7 hx8 hb26 q0 q1 q2 q3
  go_upto_block 10 with fail
  go_cut [27, 28, 29] from 258 to 282 (fun v1 v2 _ wx => Frm B [Res.own B 3 1 v1 off.length ((oneS off off.length).map (Value.int .i64)), Res.own B 3 1 v2 off.length ((twoS off off.length).map (Value.int .i64)), Res.blk k26 #[.int .i64 ml, .int .i64 ms, .int .i64 mc, .int .i64 mx, .int .i64 (1 - mf)]] wx ∧ Ext w6 wx)
  case rest =>
    obtain ⟨hf9, hx9⟩ := hcut
    obtain ⟨w9, rfl⟩ : ∃ x, x = wc := ⟨_, rfl⟩
    obtain ⟨a1, c1, rfl⟩ := own_shape (hf9.get 0 rfl)
    obtain ⟨a2, c2, rfl⟩ := own_shape (hf9.get 1 rfl)
    obtain ⟨hl1, hl2⟩ := oneS_len (Nat.le_refl off.length)
    obtain ⟨hp01, htwo⟩ := oneS_all off off.length
    have hc1 : CellsAt w9 .i64 a1 (oneS off off.length) := by
      have h := hf9.get 0 rfl
      obtain ⟨b1, d1, e, h2⟩ := own_cells_i (xs := oneS off off.length) (by rw [hl1]; exact h)
      injection e with e1 e2 e3
      subst e1
      exact h2
    have hc2 : CellsAt w9 .i64 a2 (twoS off off.length) := by
      have h := hf9.get 1 rfl
      obtain ⟨b1, d1, e, h2⟩ := own_cells_i (xs := twoS off off.length) (by rw [hl2]; exact h)
      injection e with e1 e2 e3
      subst e1
      exact h2
    have hok : (⟨ml, ms, mc, mx, mf⟩ : Mt).ok = true := by
      unfold Mt.ok
      simp only [Bool.and_eq_true, ins_one]
      omega
    have hT := sw_matS hok hp01
    rw [← htwo] at hT
    have hj1 := leg_Match ⟨ml, ms, mc, mx, mf⟩ _ a1 c1 w9 hc1 (by omega) _ rfl
    have hj2 := fun W (hx : Ext w9 W) => leg_Match ⟨ml, ms, mc, mx, 1 - mf⟩ _ a2 c2 W (hc2.ext hx) (by omega) _ rfl
    rw [hl1] at hj1
    rw [hl2] at hj2
    have hTe : (⟨ml, ms, mc, mx, mf⟩ : Mt).turn = ⟨ml, ms, mc, mx, 1 - mf⟩ := rfl
    rw [hTe] at hT
    generalize matS ⟨ml, ms, mc, mx, mf⟩ (oneS off off.length) = S at *
    generalize matS ⟨ml, ms, mc, mx, 1 - mf⟩ (twoS off off.length) = T at *
    obtain ⟨⟨s0, s1, l0, l1, fi, wi⟩, at1, er⟩ := S
    obtain ⟨⟨t0, t1, k0, k1, fj, wj⟩, at2, er2⟩ := T
    have hat := hT.at_
    have her := hT.err
    simp only at hat her
    subst hat her
    have HT := Lib.hid hT
    have HJ1 := Lib.hid hj1
    have HJ2 := Lib.hid hj2
    have HX9 := Lib.hid (HX6.out.trans hx9)
    have hb25 := HB25.out.ext hx9
    have hb26 : Blk w9 k26 #[.int .i64 ml, .int .i64 ms, .int .i64 mc, .int .i64 mx, .int .i64 (1 - mf)] := hf9.get 2 rfl
    have HB26 := Lib.hid hb26
    have q0 := hb25.cell 0 (v := .int .i64 ml) rfl
    have q1 := hb25.cell 1 (v := .int .i64 ms) rfl
    have q2 := hb25.cell 2 (v := .int .i64 mc) rfl
    have q3 := hb25.cell 3 (v := .int .i64 mx) rfl
    have q4 := hb25.cell 4 (v := .int .i64 mf) rfl
    have hq := hb25.lt
    have HQ0 := Lib.hid q0
    have HQ1 := Lib.hid q1
    have hq9 := hq
    clear hf9 hx9 hl1 hl2 hp01 htwo hc1 hc2 hok hT hj1 hj2 hTe hb25 hb26 c26 f26 hk hB1 hB2 hsz7 HF5 HX8
    go_wp2_with fail
    refine HJ1.out.mono ?_
    rintro e w10 ⟨rfl, hx10⟩
    simp only [Sc.agg]
    have hb26 := HB26.out.ext hx10
    have p0 := hb26.cell 0 (v := .int .i64 ml) rfl
    have p1 := hb26.cell 1 (v := .int .i64 ms) rfl
    have p2 := hb26.cell 2 (v := .int .i64 mc) rfl
    have p3 := hb26.cell 3 (v := .int .i64 mx) rfl
    have p4 := hb26.cell 4 (v := .int .i64 (1 - mf)) rfl
    have hp := hb26.lt
    clear hb26 q0 q1 q2 q3 q4 hq
    go_wp2_with fail
    generalize hW : World.alloc w10 _ = w11
    have hs11 : Ext w10 w11 := by rw [← hW]; exact (Ext.refl w10).alloc _
    have hb30 : Blk w11 w10.heap.size #[.int .i64 s0, .int .i64 s1, .int .i64 l0, .int .i64 l1, .int .i64 fi, .int .i64 wi] := by rw [← hW]; exact Blk.new _ _ _
    have HB30 := Lib.hid hb30
    have HX11 := Lib.hid (hx10.trans hs11)
    clear hW hb30 hs11 p0 p1 p2 p3 p4 hp
    refine (HJ2.out w11 HX11.out).mono ?_
    rintro e w12 ⟨rfl, hx12⟩
    simp only [Sc.agg]
    go_upto_region 44 with fail
    generalize hW : World.alloc w12 _ = w13
    have hs13 : Ext w12 w13 := by rw [← hW]; exact (Ext.refl w12).alloc _
    have hb32 : Blk w13 w12.heap.size #[.int .i64 t0, .int .i64 t1, .int .i64 k0, .int .i64 k1, .int .i64 fj, .int .i64 wj] := by rw [← hW]; exact Blk.new _ _ _
    obtain ⟨k32, hk32⟩ : ∃ k, k = w12.heap.size := ⟨_, rfl⟩
    obtain ⟨k30, hk30⟩ : ∃ k, k = w10.heap.size := ⟨_, rfl⟩
    rw [← hk32] at hb32 ⊢
    rw [← hk30] at HB30 ⊢
    have hx913 := (HX11.out.trans hx12).trans hs13
    have hb30 := HB30.out.ext (hx12.trans hs13)
    have HX13 := Lib.hid (HX.out.trans (HX9.out.trans hx913))
    have q0 := hx913.cell HQ0.out
    have q1 := hx913.cell HQ1.out
    have hq := Nat.lt_of_lt_of_le hq9 hx913.size
    have u0 := hb30.cell 0 (v := .int .i64 s0) rfl
    have u1 := hb30.cell 1 (v := .int .i64 s1) rfl
    have u2 := hb30.cell 2 (v := .int .i64 l0) rfl
    have u3 := hb30.cell 3 (v := .int .i64 l1) rfl
    have u4 := hb30.cell 4 (v := .int .i64 fi) rfl
    have u5 := hb30.cell 5 (v := .int .i64 wi) rfl
    have v0 := hb32.cell 0 (v := .int .i64 t0) rfl
    have v1 := hb32.cell 1 (v := .int .i64 t1) rfl
    have v2 := hb32.cell 2 (v := .int .i64 k0) rfl
    have v3 := hb32.cell 3 (v := .int .i64 k1) rfl
    have v4 := hb32.cell 4 (v := .int .i64 fj) rfl
    have v5 := hb32.cell 5 (v := .int .i64 wj) rfl
    have hl30 := hb30.lt
    have hl32 := hb32.lt
    have hfin : ∀ W, Ext w13 W → Calls Try.prog 13 #[] W fun e w' => e = .returned (.bool true) ∧ Ext W w' := fun W _ => law_known W
    have HFin := Lib.hid hfin
    clear hW hs13 hb32 hb30 hk32 hk30 hx913 hx12 HB30 HX11 HX9 HJ1 HJ2 HB26 HB25 HQ0 HQ1 hq9 hx10 hfin
    by_cases her : er2 = 0
    · subst her
      have hs := HT.out.good rfl
      have e1 := hs.s0
      have e2 := hs.s1
      have e3 := hs.l0
      have e4 := hs.l1
      have e5 := hs.ends
      simp only at e1 e2 e3 e4 e5
      subst e1 e2 e3 e4
      rcases e5 with ⟨e6, e7, e8, e9, e10⟩ | ⟨e6, e7, e8, e9⟩
      · subst e6 e7 e8
        clear hs HT
        go_wp2_with fail
        refine (law_known _).mono ?_
        rintro e w14 ⟨rfl, hx14⟩
        go_wp2
        go_ret
        exact ⟨rfl, HX13.out.trans hx14⟩
      · subst e7 e8 e9
        clear hs HT
        rcases e6 with e6 | e6
        · subst e6
          go_wp2_with fail
          refine (law_known _).mono ?_
          rintro e w14 ⟨rfl, hx14⟩
          go_wp2
          go_ret
          exact ⟨rfl, HX13.out.trans hx14⟩
        · subst e6
          go_wp2_with fail
          refine (law_known _).mono ?_
          rintro e w14 ⟨rfl, hx14⟩
          go_wp2
          go_ret
          exact ⟨rfl, HX13.out.trans hx14⟩
    · obtain ⟨h33, hge⟩ := HT.out.bad her
      simp only at h33 hge
      subst h33
      have hp0 : 0 ≤ ml * ms := Int.mul_nonneg (by omega) (by omega)
      have hp1 : ml * ms ≤ 20 := Int.le_trans (Int.mul_le_mul_of_nonneg_right bl.2 (by omega)) (by omega)
      clear HT her u0 u1 u2 u3 u4 u5 v0 v1 v2 v3 v4 v5 hl30 hl32
      go_wp2_with fail
      refine (law_known _).mono ?_
      rintro e w14 ⟨rfl, hx14⟩
      go_wp2
      go_ret
      exact ⟨rfl, HX13.out.trans hx14⟩
  case first =>
    go_wp2_with fail
    go_loopw [27, 28, 29] (fun v1 v2 kk wr => ∃ k : Nat, k ≤ off.length ∧ kk = .int .i64 k ∧ Frm B [Res.own B 3 1 v1 k ((oneS off k).map (Value.int .i64)), Res.own B 3 1 v2 k ((twoS off k).map (Value.int .i64)), Res.blk k26 #[.int .i64 ml, .int .i64 ms, .int .i64 mc, .int .i64 mx, .int .i64 (1 - mf)]] wr ∧ Ext w6 wr) (fun _ _ kk _ => off.length - (intOf kk).toNat)
    case atStart => exact ⟨0, Nat.zero_le _, rfl, HF5.out, HX8.out⟩
    case round =>
      obtain ⟨k, hk, rfl, hF, hx⟩ := hrel
      obtain ⟨va, ca, rfl⟩ := own_shape (hF.get 0 rfl)
      obtain ⟨vb, cb, rfl⟩ := own_shape (hF.get 1 rfl)
      have HF1 := Lib.hid hF
      have hsz := hx.size
      have hlo : B ≤ wr.heap.size := by omega
      clear hF
      by_cases hlt : k < off.length
      · obtain ⟨ob, oo, rfl, p0⟩ := HO.out k hlt
        have hob := HOB.out _ (List.getElem_mem hlt)
        have hsu := oneS_succ hlt
        have hx60 := HX6.out
        have hbl6 := lt_of_cell (hx60.cell p0)
        simp only at hbl6
        have hnb : ¬ (B ≤ ob) := by omega
        have hbl : ob < wr.heap.size := by omega
        replace p0 := hx.cell (hx60.cell p0)
        obtain ⟨ov, hov⟩ : ∃ ov, off[k] = ov := ⟨_, rfl⟩
        rw [hov] at p0 hob hsu
        obtain ⟨hob0, hob1⟩ := hob
        have HSU := Lib.hid hsu
        clear hsu hov hx60 hbl6
        obtain ⟨xs, hxs⟩ : ∃ xs, oneS off k = xs := ⟨_, rfl⟩
        obtain ⟨ys, hys⟩ : ∃ ys, twoS off k = ys := ⟨_, rfl⟩
        rw [hxs, hys] at HF1
        rw [hxs, hys] at HSU
        clear hxs hys
        go_upto_region 41 with fail
        refine wp_region_sep (by kernel_rfl) [.no, .no, .no, .no, .no, .no, .no, .box 1, .app (k + 1), .no, .no, .no, .no, .no, .no, .no, .no, .box 1, .app (k + 1)] B
          (fun L u => [(bif L 8 then Res.own B 3 1 (u 8) (k + 1) (xs.map (Value.int .i64) ++ [.int .i64 (ov % 2)]) else Res.own B 3 1 (.slice va k ca) k (xs.map (Value.int .i64))), (bif L 18 then Res.own B 3 1 (u 18) (k + 1) (ys.map (Value.int .i64) ++ [.int .i64 (1 - ov % 2)]) else Res.own B 3 1 (.slice vb k cb) k (ys.map (Value.int .i64))), Res.blk k26 #[.int .i64 ml, .int .i64 ms, .int .i64 mc, .int .i64 mx, .int .i64 (1 - mf)], (bif L 7 then Res.own B 3 1 (u 7) 1 [.int .i64 (ov % 2)] else Res.none), (bif L 17 then Res.own B 3 1 (u 17) 1 [.int .i64 (1 - ov % 2)] else Res.none)])
          (by kernel_rfl) (Nat.le_of_ble_eq_true rfl) (fun L L' u hh => by simp only [hh 7 rfl, hh 8 rfl, hh 17 rfl, hh 18 rfl]) (fun _ => (HF1.out.more (r := Res.none) trivial fun _ h => h).more (r := Res.none) trivial fun _ h => h) ?_
        intro T hT hne u hu
        obtain ⟨k7, u7⟩ : ∃ k, u 7 = .slice (some ⟨k, 0, none⟩) 1 1 := hu 7 rfl
        obtain ⟨k17, u17⟩ : ∃ k, u 17 = .slice (some ⟨k, 0, none⟩) 1 1 := hu 17 rfl
        obtain ⟨a8, c8, u8⟩ : ∃ a c, u 8 = .slice a (k + 1) c := hu 8 rfl
        obtain ⟨a18, c18, u18⟩ : ∃ a c, u 18 = .slice a (k + 1) c := hu 18 rfl
        clear hu
        refine lx_next 7 (by rfl) (by decide) ?_
        dsimp only [List.take, List.drop]
        repeat (go_big_quiet_step (fail))
        refine wpQuiet_nil ?_
        refine lx_loud (by rfl) (by kernel_rfl) ?_ (fun K hK => ?_)
        · intro L w3 hL hd hcl hC hs
          obtain ⟨x, rfl⟩ := hC
          have hzs := x.size
          have h8 := hcl.off hL 40 8 (by kernel_rfl)
          simp only [hL, h8, cond_false] at hs
          go_wp2
          exact aft_set x hlo ⟨_, rfl⟩ hs 3 (r' := Res.own B 3 1 (.slice (some ⟨x.world.heap.size, 0, none⟩) 1 1) 1 [.int .i64 (ov % 2)]) rfl (((Ext.refl x.world).alloc _).chg _) (own_box (by omega) (by decide) rfl) (fun k hk => .inr (by rw [← own_blk hk]; simp)) (by first | (simp [upd, updv, h8, hL]; done) | (simp [upd, updv, h8, hL]; rfl))
        rw [u7]
        go_simp
        with_reducible refine hK _ ?_
        clear hK K
        refine lx_loud (by rfl) (by kernel_rfl) ?_ (fun K hK => ?_)
        · intro L w3 hL hd hcl hC hs
          obtain ⟨x, rfl⟩ := hC
          have hzs := x.size
          have h7 := hd 7 (by kernel_rfl)
          simp only [hL, h7, cond_true, cond_false] at hs
          rw [u7] at hs
          refine wp_append_sep rfl _ _ 48 3 _ 1 _ rfl info_int (by kernel_rfl) rfl (by decide) B _ _ _ rfl (hs.get 0 rfl) B k7 1 1 _ rfl (hs.get 3 rfl) (fun u hu => by rw [List.mem_singleton.1 hu]; rfl) (by omega) (by decide) (by omega) ?_
          intro v' w4 ho4 hC4 hn4
          obtain ⟨av, ac, rfl⟩ := own_shape ho4
          go_wp2
          exact aft_set x hlo ⟨_, _, rfl⟩ hs 0 rfl hC4 (r' := Res.own B 3 1 (.slice av _ ac) _ _) ho4 hn4 (by first | (simp [upd, updv, h7, hL, u7]; done) | (simp [upd, updv, h7, hL, u7]; rfl))
        rw [u8]
        go_simp
        with_reducible refine hK _ ?_
        clear hK K
        refine lx_next 8 (by rfl) (by decide) ?_
        dsimp only [List.take, List.drop]
        repeat (go_big_quiet_step (fail))
        refine wpQuiet_nil ?_
        refine lx_loud (by rfl) (by kernel_rfl) ?_ (fun K hK => ?_)
        · intro L w3 hL hd hcl hC hs
          obtain ⟨x, rfl⟩ := hC
          have hzs := x.size
          have h18 := hcl.off hL 40 18 (by kernel_rfl)
          simp only [hL, h18, cond_false] at hs
          go_wp2
          exact aft_set x hlo ⟨_, rfl⟩ hs 4 (r' := Res.own B 3 1 (.slice (some ⟨x.world.heap.size, 0, none⟩) 1 1) 1 [.int .i64 (1 - ov % 2)]) rfl (((Ext.refl x.world).alloc _).chg _) (own_box (by omega) (by decide) rfl) (fun k hk => .inr (by rw [← own_blk hk]; simp)) (by first | (simp [upd, updv, h18, hL]; done) | (simp [upd, updv, h18, hL]; rfl))
        rw [u17]
        go_simp
        with_reducible refine hK _ ?_
        clear hK K
        refine lx_loud (by rfl) (by kernel_rfl) ?_ (fun K hK => ?_)
        · intro L w3 hL hd hcl hC hs
          obtain ⟨x, rfl⟩ := hC
          have hzs := x.size
          have h17 := hd 17 (by kernel_rfl)
          simp only [hL, h17, cond_true, cond_false] at hs
          rw [u17] at hs
          refine wp_append_sep rfl _ _ 48 3 _ 1 _ rfl info_int (by kernel_rfl) rfl (by decide) B _ _ _ rfl (hs.get 1 rfl) B k17 1 1 _ rfl (hs.get 4 rfl) (fun u hu => by rw [List.mem_singleton.1 hu]; rfl) (by omega) (by decide) (by omega) ?_
          intro v' w4 ho4 hC4 hn4
          obtain ⟨av, ac, rfl⟩ := own_shape ho4
          go_wp2
          exact aft_set x hlo ⟨_, _, rfl⟩ hs 1 rfl hC4 (r' := Res.own B 3 1 (.slice av _ ac) _ _) ho4 hn4 (by first | (simp [upd, updv, h17, hL, u17]; done) | (simp [upd, updv, h17, hL, u17]; rfl))
        rw [u18]
        go_simp
        with_reducible refine hK _ ?_
        clear hK K
        refine lx_next 2 (by rfl) (by decide) ?_
        dsimp only [List.take, List.drop]
        repeat (go_big_quiet_step (fail))
        refine wpQuiet_nil ?_
        refine lx_nil ?_
        intro x hs
        rw [u7, u8, u17, u18] at hs
        have hs2 : Frm B [Res.own B 3 1 (.slice a8 (k + 1) c8) (k + 1) ((oneS off (k + 1)).map (Value.int .i64)), Res.own B 3 1 (.slice a18 (k + 1) c18) (k + 1) ((twoS off (k + 1)).map (Value.int .i64)), Res.blk k26 #[.int .i64 ml, .int .i64 ms, .int .i64 mc, .int .i64 mx, .int .i64 (1 - mf)]] x.world := by
          rw [HSU.out.1, HSU.out.2, List.map_append, List.map_append]
          exact hs.left (rs' := [_, _])
        have HF2 := Lib.hid hs2
        have HX2 := Lib.hid (Chg.to_ext hx x.chg (by rintro i ⟨_, h⟩; have h : B ≤ i := h; omega))
        clear hs hs2 hT hne u7 u8 u17 u18 hlo
        generalize x.world = w9 at *
        clear x
        go_wp2
        go_roundw
        case rel => exact ⟨k + 1, by omega, by go_num, HF2.out, HX2.out⟩
        case measure => simp [intOf]; omega
      · have hke : k = off.length := by omega
        subst hke
        go_wp2
        go_meet
        exact ⟨HF1.out, hx⟩
end Go.Proofs.Ytocnglplhnhllaa
