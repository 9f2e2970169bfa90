/-
  MeanTruths, walked: from region 14 on.
-/
import Derived.Test.YtmopadnkjlodnaaNte
import Derived.Test.YtmopadnkjlodnaaNtg
import Derived.Test.YtmopadnkjlodnaaLmb
import Derived.Deep.CutBlock
import Derived.Deep.DeepCutAuto
namespace Go.Proofs.Ytmopadnkjlodnaa
open Go.RowKit Go.BigFrame
attribute [local go_sem] Later.cell Later.frozen Lat.cell Lat.frozen NoX
theorem OwnD.at0 {w : World} {base : Nat} {a : Option Addr} {c : Nat} {xs : List Int} (h : OwnD w base (.slice a xs.length c) xs) : CellsAt w .i64 a xs := by
  obtain ⟨a', c', e, h1, -⟩ := (h.rd (S := S0) (fun _ _ h => h)).cells
  cases e
  exact h1
theorem LgsO.legsA {w : World} {base : Nat} {a : Option Addr} {n c : Nat} {ls : List Leg} (h : LgsO w base (.slice a n c) ls) (hi : ∀ l ∈ ls, (∀ x ∈ l.beds, I64 x) ∧ (∀ x ∈ l.scores, I64 x) ∧ I64 l.start) : LgsA w a ls := by
  intro i hl
  obtain ⟨vals, h1, h2, h3⟩ := h
  obtain ⟨ba, sa, bc, sc, k1, k2, k3⟩ := h3 i hl
  have hc := fun g (hg : (Value.slice a n c).ownBlock = some g) => World.ownsRow.cells (w := w) (g := g) h1 hg
  obtain ⟨-, ⟨-, e2⟩ | ⟨g, cap, cur, e1, -⟩⟩ := h1
  · omega
  · cases e1
    have hm := hi _ (List.getElem_mem hl)
    refine ⟨g, 0, ba, sa, bc, sc, rfl, fun j u hu => ?_, BedA.own k2 hm.1, BedA.ownI k3 hm.2.1, hm.2.2⟩
    have := hc g rfl (6 * i + j) u (k1 j u hu)
    rw [addr_add, Nat.zero_add] at this
    rw [show 0 + i * 6 + j = 6 * i + j by omega]
    exact this
theorem Tld.ok.sco {bl : List Int} {d : Tld} (h : d.ok bl) : d.x.scores.length = d.vs.length ∧ ∀ y ∈ d.x.scores, I64 y := by
  have hv : 1 ≤ d.vs.length ∧ d.vs.length ≤ 100 := by have := h.len; omega
  obtain ⟨-, h1, -⟩ := vst_thrown h.law h.run hv
  refine ⟨h1, fun y hy => ?_⟩
  obtain ⟨k, hk, rfl⟩ := List.mem_iff_getElem.1 hy
  rw [h1] at hk
  obtain ⟨e, r, hS⟩ := step_k h.law h.run k hk
  have hs := hS.sk
  rw [List.getElem?_eq_getElem (by omega)] at hs
  injection hs with hs
  rw [hs]
  have ht := tlx_all h.law h.run hv.2 (k + 1) _ (by omega) hS.post
  have hst : 2 ≤ d.start ∧ d.start ≤ 1001 := by have := cntB_start (laws_cnt h.law).1; omega
  have h2 := hS.st.1
  have h3 := hS.st.2.1
  have h4 := leastS_pos d.gout
  rcases ht.st with h5 | h5
  · have := h5.2; exact ⟨by omega, by omega⟩
  · have := h5.2.1; have := h5.2.2.1; exact ⟨by omega, by omega⟩
theorem sum_vis {bl : List Int} : ∀ {ds : List Tld}, (∀ d ∈ ds, d.ok bl) → (ds.length : Int) ≤ sumD Tld.vis ds
  | [], _ => by simp [sumD]
  | d :: ds, h => by
    have ih := sum_vis (fun e he => h e (List.mem_cons_of_mem _ he))
    have h1 := (h d (by simp)).len
    rw [sumD_cons, List.length_cons]
    unfold Tld.vis at *
    push_cast
    omega
theorem sumD_le {f : Tld → Int} {m : Int} : ∀ {ds : List Tld}, (∀ d ∈ ds, 0 ≤ f d ∧ f d ≤ m) → 0 ≤ sumD f ds ∧ sumD f ds ≤ m * ds.length
  | [], _ => by simp [sumD]
  | d :: ds, h => by
    have ih := sumD_le (fun e he => h e (List.mem_cons_of_mem _ he))
    have h1 := h d (by simp)
    rw [sumD_cons, List.length_cons]
    push_cast
    rw [Int.mul_add, Int.mul_one]
    omega
theorem Tld.ok.tlx {bl : List Int} {d : Tld} (h : d.ok bl) : TlX d.start d.gout d.vs.length d.x := tlx_all h.law h.run (by have := h.len; omega) d.vs.length d.x (Nat.le_refl _) (by rw [List.take_length]; exact h.run)
theorem Tld.ok.bnd {bl : List Int} {d : Tld} (h : d.ok bl) : (0 ≤ d.drt ∧ d.drt ≤ 45) ∧ (0 ≤ d.tri ∧ d.tri ≤ 45) ∧ (0 ≤ d.won ∧ d.won ≤ 1) ∧ (0 ≤ d.pts ∧ d.pts ≤ 1001) := by
  have t := h.tlx
  have hl := h.len
  have hs : 2 ≤ d.start ∧ d.start ≤ 1001 := by have := cntB_start (laws_cnt h.law).1; omega
  have h1 := t.dar
  have h2 := t.tri
  have h3 := t.pts
  have h4 : 0 ≤ d.x.left ∧ d.x.left ≤ d.start := by
    rcases t.st with h1 | h1
    · have := h1.2; omega
    · have := h1.2.1; have := h1.2.2.1; have := leastS_pos d.gout; omega
  unfold Tld.drt Tld.tri Tld.won Tld.pts
  refine ⟨by omega, by omega, ?_, by omega⟩
  split <;> exact ⟨by decide, by decide⟩
theorem sums_bnd {bl : List Int} {ds : List Tld} (h : ∀ d ∈ ds, d.ok bl) (hl : ds.length ≤ 4) : (0 ≤ sumD Tld.drt ds ∧ sumD Tld.drt ds ≤ 180) ∧ (0 ≤ sumD Tld.tri ds ∧ sumD Tld.tri ds ≤ 180) ∧ (0 ≤ sumD Tld.won ds ∧ sumD Tld.won ds ≤ 4) ∧ (0 ≤ sumD Tld.pts ds ∧ sumD Tld.pts ds ≤ 4004) := by
  have h1 := sumD_le (f := Tld.drt) (m := 45) (fun d hd => (h d hd).bnd.1)
  have h2 := sumD_le (f := Tld.tri) (m := 45) (fun d hd => (h d hd).bnd.2.1)
  have h3 := sumD_le (f := Tld.won) (m := 1) (fun d hd => (h d hd).bnd.2.2.1)
  have h4 := sumD_le (f := Tld.pts) (m := 1001) (fun d hd => (h d hd).bnd.2.2.2)
  omega
theorem sumD_snoc (f : Tld → Int) (d : Tld) : ∀ ds : List Tld, sumD f (ds ++ [d]) = sumD f ds + f d
  | [] => by simp [sumD]
  | e :: ds => by rw [List.cons_append, sumD_cons, sumD_cons, sumD_snoc f d ds]; omega
set_option maxRecDepth 100000 in
set_option maxHeartbeats 16000000 in
theorem truths_end (c : Code) (hcd : codeFrom 14 (Try.f8.body.getD .skip) = some c) (HK : Hid Knows) (w w2 w3 : World) (bl : List Int) (hbl : 1 ≤ bl.length ∧ bl.length ≤ 82) (HI64 : Hid (∀ b ∈ bl, I64 b)) (ds : List Tld) (k : Nat) (hN4 : 1 ≤ k ∧ k ≤ 4) (HDK : Hid (ds.length = k)) (HD : Hid (∀ d ∈ ds, d.ok bl)) (ga : Option Addr) (gc : Nat) (HL : Hid (LgsO w3 w2.heap.size (.slice ga k gc) (ds.map (Tld.leg bl)))) (HX2 : Hid (Ext w w2)) (HX3 : Hid (Ext w2 w3)) (sd st sw sp : Int)
    (HSE : Hid (sumD Tld.drt ds = sd ∧ sumD Tld.tri ds = st ∧ sumD Tld.won ds = sw ∧ sumD Tld.pts ds = sp)) {s0 s1 s2 s3 s9 s10 s11 s12 s13 s14 s15 s16 s17 s18 s19 s20 s21 s22 s23 s24 s25 s26 s27 s28 s29 s30 s31 s32 s33 s34 s35 s36 s37 s38 s39 s40 s41 s42 s43 s44 s45 s46 s47 s48 s49 s50 s51 s52 s53 s54 s55 s56 s57 s58 s59 s60 s61 s62 s63 s64 s65 s66 s67 s68 s69 s70 s71 s72 s73 s74 s75 s76 s77 s78 s79 s80 s81 s82 s83 s84 s85 s86 s87 s88 s89 s90 s91 s92 s93 s94 s95 s96 s97 s98 s99 s100 s101 s102 s103 s104 s105 s106 s107 s108 s109 s110 s111 s112 s113 s114 s115 s116 s117 s118 s119 s120 s121 s122 s123 s124 s125 s126 s127 s128 s129 s130 s131 s132 s133 s134 s135 s136 s137 s138 s139 s140 s141 s142 s143 s144 s145 s146 s147 s148 s149 s150 s151 s152 s153 s154 s155 s156 s157 s158 s159 s160 s161 s162 s163 s164 s165 s166 s167 s168 s169 s170 s171 s172 s173 s174 s175 s176 s177 s178 s179 s180 s181 s182 s183 s184 s185 s186 s187 s188 s189 s190 s191 s192 s193 s194 s195 s196 s197 s198 s199 s200 s201 s202 s203 s204 s205 s206 s207 s208 s209 s210 s211 s212 s213 s214 s215 s216 s217 s218 s219 s220 s221 s222 s223 s224 s225 s226 s227 s228 s229 s230 s231 s232 s233 s234 s235 s236 s237 s238 s239 s240 s241 s242 s243 s244 s245 s246 s247 s248 s249 s250 s251 s252 s253 s254 s255 s256 s257 s258 s259 s260 s261 s262 s263 s264 s265 s266 s267 s268 s269 : Value} :
    c.wp Try.prog (bodyPost Try.prog Try.f8 fun e w' => e = .returned (.bool true) ∧ Ext w w') { tmps := #[s0, s1, s2, s3, .slice ga k gc, .int .i64 sd, .int .i64 st, .int .i64 sw, .int .i64 sp, s9, s10, s11, s12, s13, s14, s15, s16, s17, s18, s19, s20, s21, s22, s23, s24, s25, s26, s27, s28, s29, s30, s31, s32, s33, s34, s35, s36, s37, s38, s39, s40, s41, s42, s43, s44, s45, s46, s47, s48, s49, s50, s51, s52, s53, s54, s55, s56, s57, s58, s59, s60, s61, s62, s63, s64, s65, s66, s67, s68, s69, s70, s71, s72, s73, s74, s75, s76, s77, s78, s79, s80, s81, s82, s83, s84, s85, s86, s87, s88, s89, s90, s91, s92, s93, s94, s95, s96, s97, s98, s99, s100, s101, s102, s103, s104, s105, s106, s107, s108, s109, s110, s111, s112, s113, s114, s115, s116, s117, s118, s119, s120, s121, s122, s123, s124, s125, s126, s127, s128, s129, s130, s131, s132, s133, s134, s135, s136, s137, s138, s139, s140, s141, s142, s143, s144, s145, s146, s147, s148, s149, s150, s151, s152, s153, s154, s155, s156, s157, s158, s159, s160, s161, s162, s163, s164, s165, s166, s167, s168, s169, s170, s171, s172, s173, s174, s175, s176, s177, s178, s179, s180, s181, s182, s183, s184, s185, s186, s187, s188, s189, s190, s191, s192, s193, s194, s195, s196, s197, s198, s199, s200, s201, s202, s203, s204, s205, s206, s207, s208, s209, s210, s211, s212, s213, s214, s215, s216, s217, s218, s219, s220, s221, s222, s223, s224, s225, s226, s227, s228, s229, s230, s231, s232, s233, s234, s235, s236, s237, s238, s239, s240, s241, s242, s243, s244, s245, s246, s247, s248, s249, s250, s251, s252, s253, s254, s255, s256, s257, s258, s259, s260, s261, s262, s263, s264, s265, s266, s267, s268, s269], defers := [] } w3 := by
  simp only [Try.f8, Option.getD_some, codeFrom, ↓reduceIte, Nat.reduceEqDiff, Option.some.injEq] at hcd
  subst hcd
  dsimp only
  have hlm : (ds.map (Tld.leg bl)).length = k := by rw [List.length_map, HDK.out]
  have hI : ∀ l ∈ ds.map (Tld.leg bl), (∀ x ∈ l.beds, I64 x) ∧ (∀ x ∈ l.scores, I64 x) ∧ I64 l.start := fun l hl => by
    obtain ⟨d, hd, rfl⟩ := List.mem_map.1 hl
    have h := HD.out d hd
    have hs : 2 ≤ d.start ∧ d.start ≤ 1001 := by have := cntB_start (laws_cnt h.law).1; omega
    exact ⟨HI64.out, h.sco.2, ⟨by show _ ≤ d.start; omega, by show d.start ≤ _; omega⟩⟩
  have hZ : ∀ l ∈ ds.map (Tld.leg bl), l.beds.length ≤ 1000 ∧ l.scores.length ≤ 1000 := fun l hl => by
    obtain ⟨d, hd, rfl⟩ := List.mem_map.1 hl
    have h := HD.out d hd
    refine ⟨by show bl.length ≤ 1000; omega, ?_⟩
    show d.x.scores.length ≤ 1000
    rw [h.sco.1]
    have := h.len
    omega
  have hLL := law_legs (ds.map (Tld.leg bl)) ga gc w3 (HL.out.legsA hI) (by omega) hZ
  obtain ⟨T, hT, hM, hTB⟩ := tot_sum HD.out (by rw [HDK.out]; omega)
  rw [hlm] at hLL
  have HLL := Lib.hid hLL
  have HIS := Lib.hid hI
  have HTE := Lib.hid hT
  have hsv := sum_vis HD.out
  have HAV := Lib.hid (avg_in hM hTB (by rw [HDK.out] at hsv; omega))
  have HRA := Lib.hid (rat_in hM hTB)
  have HMM := Lib.hid hM
  have HTB := Lib.hid hTB
  have HSB := Lib.hid (sums_bnd HD.out (by rw [HDK.out]; omega))
  have HLM := Lib.hid hlm
  clear hLL hI hT hM hTB hZ hlm hsv
  go_wp2_with fail
  refine HLL.out.mono ?_
  rintro e w4 ⟨v4, rfl, hL4, hx4⟩
  obtain ⟨gb, gd, rfl⟩ := hL4.shape
  have HX4 := Lib.hid (HX3.out.trans hx4)
  have hmt := mean_Totals (ds.map (Tld.leg bl)) gb gd w4 (hL4.legs HIS.out) (by rw [HLM.out]; omega)
  rw [HTE.out, HLM.out] at hmt
  obtain ⟨tlg, twn, tvi, tpt, ⟨tdl, tdh⟩, ⟨ttl, tth⟩, tto, thi, ttp, tbe⟩ := T
  unfold Tot.cells at hmt
  dsimp only at hmt
  have HMT := Lib.hid hmt
  clear hx4 hL4 hmt
  rw [HLM.out]
  go_wp2_with fail
  refine HMT.out.mono ?_
  rintro e w5 ⟨rfl, hx5⟩
  have HX5 := Lib.hid (HX4.out.trans hx5)
  have e1 : tlg = (k : Int) := by have h := HMM.out.legs; rw [HDK.out] at h; simpa [tot0] using h
  have e2 : twn = sw := by have h := HMM.out.won; rw [HSE.out.2.2.1] at h; simpa [tot0] using h
  have e3 : tpt = sp := by have h := HMM.out.pts; rw [HSE.out.2.2.2] at h; simpa [tot0] using h
  subst e1
  subst e2
  subst e3
  have hq : (tdl ≤ sd ∧ sd ≤ tdh) ∧ (ttl ≤ st ∧ st ≤ tth) ∧ twn ≤ ttl ∧ tth ≤ tdh ∧ 1 ≤ tdl := by
    have d1 := HMM.out.dl
    have d2 := HMM.out.dh
    have d3 := HMM.out.tl
    have d4 := HMM.out.th
    rw [HSE.out.1] at d1 d2
    rw [HSE.out.2.1] at d3 d4
    rw [HSE.out.2.2.1] at d3
    have z : tot0.darts.lo = 0 ∧ tot0.darts.hi = 0 ∧ tot0.tried.lo = 0 ∧ tot0.tried.hi = 0 := ⟨rfl, rfl, rfl, rfl⟩
    have hsv := sum_vis HD.out
    rw [HDK.out] at hsv
    dsimp only at d1 d2 d3 d4
    omega
  obtain ⟨⟨q1, q2⟩, ⟨q3, q4⟩, q5, q6, q7⟩ := hq
  clear hx5
  go_upto_region 15 with fail
  generalize hw6 : World.alloc w5 _ = w6
  obtain ⟨k16, hk16⟩ : ∃ y, y = w5.heap.size := ⟨_, rfl⟩
  rw [← hk16]
  have HT6 : Hid (Blk w6 k16 #[.int .i64 k, .int .i64 twn, .int .i64 tvi, .int .i64 tpt, .int .i64 tdl, .int .i64 tdh, .int .i64 ttl, .int .i64 tth, .int .i64 tto, .int .i64 thi, .int .i64 ttp, .int .i64 tbe]) := Lib.hid (by rw [← hw6, hk16]; exact Blk.new _ _ _)
  have HX56 : Hid (Ext w5 w6) := Lib.hid (by rw [← hw6]; exact (Ext.refl _).alloc _)
  have HX6 := Lib.hid (HX5.out.trans HX56.out)
  clear hw6 hk16 HX56
  have t0 := HT6.out.cell 0 (v := .int .i64 k) rfl
  have t1 := HT6.out.cell 1 (v := .int .i64 twn) rfl
  have t2 := HT6.out.cell 2 (v := .int .i64 tvi) rfl
  have t3 := HT6.out.cell 3 (v := .int .i64 tpt) rfl
  have t4 := HT6.out.cell 4 (v := .int .i64 tdl) rfl
  have t5 := HT6.out.cell 5 (v := .int .i64 tdh) rfl
  have t6 := HT6.out.cell 6 (v := .int .i64 ttl) rfl
  have t7 := HT6.out.cell 7 (v := .int .i64 tth) rfl
  have t8 := HT6.out.cell 8 (v := .int .i64 tto) rfl
  have t9 := HT6.out.cell 9 (v := .int .i64 thi) rfl
  have t10 := HT6.out.cell 10 (v := .int .i64 ttp) rfl
  have t11 := HT6.out.cell 11 (v := .int .i64 tbe) rfl
  have tl := HT6.out.lt
  go_cut [225] (fun v wx => v = .bool false ∧ wx = w6)
  case first =>
    have n1 : ¬ sd < tdl := by omega
    have n2 : ¬ tdh < sd := by omega
    have n3 : ¬ st < ttl := by omega
    have n4 : ¬ tth < st := by omega
    have n5 : ¬ ttl < twn := by omega
    have n6 : ¬ tdh < tth := by omega
    go_wp2
    go_meet
    exact ⟨rfl, rfl⟩
  case rest =>
  obtain ⟨hc1, hc2⟩ := hcut
  subst hc1
  subst hc2
  rename World => w6
  obtain ⟨T, hT⟩ : ∃ T : Tot, T = ⟨(k : Int), twn, tvi, tpt, ⟨tdl, tdh⟩, ⟨ttl, tth⟩, tto, thi, ttp, tbe⟩ := ⟨_, rfl⟩
  rw [← hT] at HAV HRA
  have hma := fun W => mean_Average T W
  have hmr := fun W => mean_Rate T W
  unfold Tot.agg at hma hmr
  rw [hT] at hma hmr
  rw [← hT] at hma hmr
  obtain ⟨⟨⟨⟨al, ad⟩, ⟨ah, ae⟩⟩, af⟩, haf⟩ : ∃ y, avgS T = y := ⟨_, rfl⟩
  obtain ⟨⟨⟨⟨rl, rd⟩, ⟨rh, re⟩⟩, rf⟩, hrf⟩ : ∃ y, ratS T = y := ⟨_, rfl⟩
  rw [haf] at hma HAV
  rw [hrf] at hmr HRA
  rw [HSE.out.1, HSE.out.2.2.2] at HAV
  rw [HSE.out.2.1, HSE.out.2.2.1] at HRA
  obtain ⟨ha0, haw, hab1, hab2, hab3, hab4⟩ := HAV.out
  dsimp only at ha0 haw hab1 hab2 hab3 hab4
  subst ha0
  rw [hT] at hma hmr
  unfold Ran.agg at hma hmr
  dsimp only at hma hmr
  have HMA := Lib.hid hma
  have HMR := Lib.hid hmr
  have HAW := Lib.hid haw
  have HAB := Lib.hid (And.intro hab1 (And.intro hab2 (And.intro hab3 hab4)))
  obtain ⟨⟨sb0, sb1⟩, ⟨sb2, sb3⟩, ⟨sb4, sb5⟩, sb6, sb7⟩ := HSB.out
  rw [HSE.out.1] at sb0 sb1
  rw [HSE.out.2.1] at sb2 sb3
  rw [HSE.out.2.2.1] at sb4 sb5
  rw [HSE.out.2.2.2] at sb6 sb7
  clear hma hmr haw hab1 hab2 hab3 hab4 hT haf hrf
  go_wp2_with fail
  refine (HMA.out _).mono ?_
  rintro e w7 ⟨rfl, hx7⟩
  have HT7 := Lib.hid (HT6.out.ext hx7)
  have HX7 := Lib.hid (HX6.out.trans hx7)
  clear hx7 t0 t1 t2 t3 t4 t5 t6 t7 t8 t9 t10 t11 tl
  go_upto_region 18 with fail
  generalize hw8 : World.alloc w7 _ = w8
  obtain ⟨k19, hk19⟩ : ∃ y, y = w7.heap.size := ⟨_, rfl⟩
  rw [← hk19]
  have HA8 : Hid (Blk w8 k19 #[.int .i64 al, .int .i64 ad, .int .i64 ah, .int .i64 ae]) := Lib.hid (by rw [← hw8, hk19]; exact Blk.new _ _ _)
  have HX78 : Hid (Ext w7 w8) := Lib.hid (by rw [← hw8]; exact (Ext.refl _).alloc _)
  have HX8 := Lib.hid (HX7.out.trans HX78.out)
  have HT8 := Lib.hid (HT7.out.ext HX78.out)
  clear hw8 hk19 HX78
  have t0 := HT8.out.cell 0 (v := .int .i64 k) rfl
  have t1 := HT8.out.cell 1 (v := .int .i64 twn) rfl
  have t2 := HT8.out.cell 2 (v := .int .i64 tvi) rfl
  have t3 := HT8.out.cell 3 (v := .int .i64 tpt) rfl
  have t4 := HT8.out.cell 4 (v := .int .i64 tdl) rfl
  have t5 := HT8.out.cell 5 (v := .int .i64 tdh) rfl
  have t6 := HT8.out.cell 6 (v := .int .i64 ttl) rfl
  have t7 := HT8.out.cell 7 (v := .int .i64 tth) rfl
  have t8 := HT8.out.cell 8 (v := .int .i64 tto) rfl
  have t9 := HT8.out.cell 9 (v := .int .i64 thi) rfl
  have t10 := HT8.out.cell 10 (v := .int .i64 ttp) rfl
  have t11 := HT8.out.cell 11 (v := .int .i64 tbe) rfl
  have tl := HT8.out.lt
  go_wp2_with fail
  refine (HMR.out _).mono ?_
  rintro e w9 ⟨rfl, hx9⟩
  have HT9 := Lib.hid (HT8.out.ext hx9)
  have HA9 := Lib.hid (HA8.out.ext hx9)
  have HX9 := Lib.hid (HX8.out.trans hx9)
  clear hx9 t0 t1 t2 t3 t4 t5 t6 t7 t8 t9 t10 t11 tl
  go_upto_region 19 with fail
  generalize hw10 : World.alloc w9 _ = w10
  obtain ⟨k21, hk21⟩ : ∃ y, y = w9.heap.size := ⟨_, rfl⟩
  rw [← hk21]
  have HR10 : Hid (Blk w10 k21 #[.int .i64 rl, .int .i64 rd, .int .i64 rh, .int .i64 re]) := Lib.hid (by rw [← hw10, hk21]; exact Blk.new _ _ _)
  have HX910 : Hid (Ext w9 w10) := Lib.hid (by rw [← hw10]; exact (Ext.refl _).alloc _)
  have HX10 := Lib.hid (HX9.out.trans HX910.out)
  have HT10 := Lib.hid (HT9.out.ext HX910.out)
  have HA10 := Lib.hid (HA9.out.ext HX910.out)
  clear hw10 hk21 HX910
  have hwi := law_within (3 * tpt) sd al ad ah ae w10 (by omega) (by omega) (by have := HAB.out.1; omega) (by have := HAB.out.2.1; omega) (by have := HAB.out.2.2.1; omega) (by have := HAB.out.2.2.2; omega)
  rw [HAW.out] at hwi
  have HWI := Lib.hid hwi
  clear hwi
  go_cut [254] (fun v wx => v = .bool false ∧ Ext w10 wx)
  case first =>
    have t0 := HT10.out.cell 0 (v := .int .i64 k) rfl
    have t1 := HT10.out.cell 1 (v := .int .i64 twn) rfl
    have t2 := HT10.out.cell 2 (v := .int .i64 tvi) rfl
    have t3 := HT10.out.cell 3 (v := .int .i64 tpt) rfl
    have t4 := HT10.out.cell 4 (v := .int .i64 tdl) rfl
    have t5 := HT10.out.cell 5 (v := .int .i64 tdh) rfl
    have t6 := HT10.out.cell 6 (v := .int .i64 ttl) rfl
    have t7 := HT10.out.cell 7 (v := .int .i64 tth) rfl
    have t8 := HT10.out.cell 8 (v := .int .i64 tto) rfl
    have t9 := HT10.out.cell 9 (v := .int .i64 thi) rfl
    have t10 := HT10.out.cell 10 (v := .int .i64 ttp) rfl
    have t11 := HT10.out.cell 11 (v := .int .i64 tbe) rfl
    have tl := HT10.out.lt
    have a0 := HA10.out.cell 0 (v := .int .i64 al) rfl
    have a1 := HA10.out.cell 1 (v := .int .i64 ad) rfl
    have a2 := HA10.out.cell 2 (v := .int .i64 ah) rfl
    have a3 := HA10.out.cell 3 (v := .int .i64 ae) rfl
    have al := HA10.out.lt
    cases hrz : (rf == 0)
    · have hth : ¬ 0 < tth := by
        intro h
        have h2 := HRA.out.1.2 h
        rw [h2] at hrz
        simp at hrz
      have HRZ := Lib.hid hrz
      go_wp2_with fail
      refine HWI.out.mono ?_
      rintro e w11 ⟨rfl, hx11⟩
      replace t7 := hx11.cell t7
      replace tl := Nat.lt_of_lt_of_le tl hx11.size
      go_wp2
      go_meet
      exact ⟨by first | rfl | (rw [decide_eq_false (by omega)]), hx11⟩
    · have hth : 0 < tth := HRA.out.1.1 (by simpa using hrz)
      have HRZ := Lib.hid hrz
      go_wp2_with fail
      refine HWI.out.mono ?_
      rintro e w11 ⟨rfl, hx11⟩
      replace t7 := hx11.cell t7
      replace tl := Nat.lt_of_lt_of_le tl hx11.size
      go_wp2
      go_meet
      exact ⟨rfl, hx11⟩
  case rest =>
  obtain ⟨hc1, hx11⟩ := hcut
  subst hc1
  obtain ⟨w11, rfl⟩ : ∃ y, y = wc := ⟨_, rfl⟩
  have HX11 := Lib.hid ((HX2.out.trans HX10.out).trans hx11)
  have HR11 := Lib.hid (HR10.out.ext hx11)
  clear hx11
  cases hrz : (rf != 0)
  case true =>
    go_wp2_with fail
    refine (HK.out _).mono ?_
    rintro e wz ⟨rfl, hxz⟩
    go_wp2
    go_ret
    exact ⟨rfl, HX11.out.trans hxz⟩
  case false =>
  have hr0 : rf = 0 := by simpa using hrz
  subst hr0
  by_cases hs0 : st = 0
  case pos =>
    subst hs0
    go_wp2_with fail
    refine (HK.out _).mono ?_
    rintro e wz ⟨rfl, hxz⟩
    go_wp2
    go_ret
    exact ⟨rfl, HX11.out.trans hxz⟩
  case neg =>
  have hs0' : (st == 0) = false := by simpa using hs0
  have hrb := HRA.out.2.2 rfl
  have hrw := HRA.out.2.1 rfl hs0
  have hwi := law_within twn st rl rd rh re w11 (by omega) (by omega) (by omega) (by omega) (by omega) (by omega)
  rw [hrw] at hwi
  have HWI2 := Lib.hid hwi
  clear hwi hrw hrb
  have r0 := HR11.out.cell 0 (v := .int .i64 rl) rfl
  have r1 := HR11.out.cell 1 (v := .int .i64 rd) rfl
  have r2 := HR11.out.cell 2 (v := .int .i64 rh) rfl
  have r3 := HR11.out.cell 3 (v := .int .i64 re) rfl
  have rl := HR11.out.lt
  go_wp2_with fail
  refine HWI2.out.mono ?_
  rintro e w12 ⟨rfl, hx12⟩
  have HX12 := Lib.hid (HX11.out.trans hx12)
  clear hx12 r0 r1 r2 r3 rl
  go_wp2_with fail
  refine (HK.out _).mono ?_
  rintro e wz ⟨rfl, hxz⟩
  go_wp2
  go_ret
  exact ⟨rfl, HX12.out.trans hxz⟩
end Go.Proofs.Ytmopadnkjlodnaa
