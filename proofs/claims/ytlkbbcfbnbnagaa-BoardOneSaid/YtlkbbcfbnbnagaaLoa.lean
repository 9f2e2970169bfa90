/-
  The statement BoardOne: from the mirror on.
-/
import Derived.Test.YtlkbbcfbnbnagaaLbb
import Derived.Test.YtlkbbcfbnbnagaaLbf
import Derived.Test.YtlkbbcfbnbnagaaMix
import Derived.Deep.CutBlock
namespace Go.Proofs.Ytlkbbcfbnbnagaa
open Go.RowKit Go.BigFrame
attribute [local go_sem] Later.cell Later.frozen Lat.cell Lat.frozen
def NoHit (l : List Pt) (p : Pt) (k : Nat) : Prop := ∀ i, i < k → crossP (ptAt l i) p ≠ 0
theorem own_some {w : World} {base size n : Nat} {e : TypeId} {v : Value} {xs : List Value} (h : w.ownsRow base e size v n xs) (h0 : 0 < n) : ∃ g c, v = .slice (some ⟨g, 0, none⟩) n c ∧ base ≤ g ∧ g < w.heap.size := by
  obtain ⟨h1, ⟨e, h2⟩ | ⟨g, cap, cur, e, hb, hh, _⟩⟩ := h
  · omega
  · exact ⟨g, cap, e, hb, (Array.getElem?_eq_some_iff.1 hh).1⟩
set_option maxRecDepth 100000 in
set_option maxHeartbeats 4000000 in
theorem one_tail (c : Code) (hc : codeFrom 17 (Try.f7.body.getD .skip) = some c) (b : Brd) (a1 a2 a3 : Option Addr) (a4 a5 a6 k7 k8 : Nat) (px py A : Int) (wi : Bool) (w wc : World)
    (HX : Hid (Ext w wc)) (HE : Hid (errB b = 0)) (HSM : Hid (SmallB b)) (hpx : -1250 ≤ px ∧ px ≤ 1250) (hpy : -1250 ≤ py ∧ py ≤ 1250) (HLI : Hid (linesB b.lines = true)) (HML : Hid (linesB (mirL b.lines) = true)) (HME : Hid (errB (mirB b) = 0))
    (HA : Hid (bedB b ⟨px, py⟩ = A)) (HWI : Hid (onWire b ⟨px, py⟩ = wi)) (hn3 : 3 ≤ b.nums.length ∧ b.nums.length ≤ 20)
    (HB : Hid (BrdAt wc ⟨a1, a2, a3, a4, a5, a6⟩ b)) (HN : Hid (BrdNil ⟨a1, a2, a3, a4, a5, a6⟩ b))
    (HB7 : Hid (Blk wc k7 #[.int .i64 b.eye, .int .i64 b.bull, .slice a1 b.rings.length a4, .slice a2 b.lines.length a5, .slice a3 b.nums.length a6, .int .i64 b.wire])) (HB8 : Hid (Blk wc k8 #[.int .i64 px, .int .i64 py]))
    {s0 s1 s2 s3 s4 s5 s6 s9 s10 s13 s15 s16 s17 s18 s19 s20 s21 s22 s23 s24 s25 s26 s27 s28 s29 s30 s31 s32 s33 s34 s35 s36 s37 s38 s39 s40 s41 s42 s43 s44 s45 s46 s47 s48 s49 s50 s51 s52 s53 s54 s55 s56 s57 s58 s59 s60 s61 s62 s63 s64 s65 s66 s67 s68 s69 s70 s71 s72 s73 s74 s75 s76 s77 s78 s79 s80 s81 s82 s83 s84 s85 s86 s87 s88 s89 s90 s91 s92 s93 s94 s95 s96 s97 s98 s99 s100 s101 s102 s103 s104 s105 s106 s107 s108 s109 s110 s111 s112 s113 s114 s115 s116 s117 s118 s119 s120 s121 s122 s123 s124 s125 s126 s127 s128 s129 s130 s131 s132 s133 s134 s135 s136 s137 s138 s139 s140 s141 s142 s143 s144 s145 s146 s147 s148 s149 s150 s151 s152 s153 s154 s155 s156 s157 s158 s159 s160 s161 s162 s163 s164 s165 s166 s167 s168 s169 s170 s171 s172 s173 s174 s175 s176 s177 s178 s179 s180 s181 s182 s183 s184 s185 s186 s187 s188 s189 s190 s191 s192 s193 s194 s195 s196 s197 s198 s199 s200 s201 s202 s203 s204 s205 s206 s207 s208 s209 s210 s211 s212 s213 s214 s215 s216 s217 s218 s219 s220 s221 s222 s223 s224 s225 s226 s227 s228 s229 s230 s231 s232 s233 s234 s235 s236 s237 s238 s239 s240 s241 s242 s243 s244 s245 s246 s247 s248 s249 s250 s251 s252 s253 s254 : Value} :
    c.wp Try.prog (bodyPost Try.prog Try.f7 fun e w' => e = .returned (.bool true) ∧ Ext w w')
      { tmps := #[s0, s1, s2, s3, s4, s5, s6, .pointer (some ⟨k7, 0, none⟩), .pointer (some ⟨k8, 0, none⟩), s9, s10, .int .i64 A, .bool wi, s13, .bool true, s15, s16, s17, s18, s19, s20, s21, s22, s23, s24, s25, s26, s27, s28, s29, s30, s31, s32, s33, s34, s35, s36, s37, s38, s39, s40, s41, s42, s43, s44, s45, s46, s47, s48, s49, s50, s51, s52, s53, s54, s55, s56, s57, s58, s59, s60, s61, s62, s63, s64, s65, s66, s67, s68, s69, s70, s71, s72, s73, s74, s75, s76, s77, s78, s79, s80, s81, s82, s83, s84, s85, s86, s87, s88, s89, s90, s91, s92, s93, s94, s95, s96, s97, s98, s99, s100, s101, s102, s103, s104, s105, s106, s107, s108, s109, s110, s111, s112, s113, s114, s115, s116, s117, s118, s119, s120, s121, s122, s123, s124, s125, s126, s127, s128, s129, s130, s131, s132, s133, s134, s135, s136, s137, s138, s139, s140, s141, s142, s143, s144, s145, s146, s147, s148, s149, s150, s151, s152, s153, s154, s155, s156, s157, s158, s159, s160, s161, s162, s163, s164, s165, s166, s167, s168, s169, s170, s171, s172, s173, s174, s175, s176, s177, s178, s179, s180, s181, s182, s183, s184, s185, s186, s187, s188, s189, s190, s191, s192, s193, s194, s195, s196, s197, s198, s199, s200, s201, s202, s203, s204, s205, s206, s207, s208, s209, s210, s211, s212, s213, s214, s215, s216, s217, s218, s219, s220, s221, s222, s223, s224, s225, s226, s227, s228, s229, s230, s231, s232, s233, s234, s235, s236, s237, s238, s239, s240, s241, s242, s243, s244, s245, s246, s247, s248, s249, s250, s251, s252, s253, s254], defers := [] } wc := by
  simp only [Try.f7, Option.getD_some, codeFrom, ↓reduceIte, Nat.reduceEqDiff, Option.some.injEq] at hc
  subst hc
  obtain ⟨p0, p1⟩ := hpx
  obtain ⟨p2, p3⟩ := hpy
  obtain ⟨n3, n20⟩ := hn3
  have HG := Lib.hid (errB_good HSM.out HE.out)
  have HNL := Lib.hid HG.out.len
  have hl3 : 3 ≤ b.lines.length := by rw [← HNL.out]; exact n3
  have hl20 : b.lines.length ≤ 20 := by rw [← HNL.out]; exact n20
  have HSMM := Lib.hid (mir_small HSM.out)
  have hw7 := HB7.out.lt
  have hw8 := HB8.out.lt
  have hwn7 : ¬ (wc.heap.size ≤ k7) := by omega
  have hwn8 : ¬ (wc.heap.size ≤ k8) := by omega
  dsimp only
  have m0 := HB7.out.cell 0 (v := .int .i64 b.eye) rfl
  have m1 := HB7.out.cell 1 (v := .int .i64 b.bull) rfl
  have m2 := HB7.out.cell 2 (v := .slice a1 b.rings.length a4) rfl
  have m3 := HB7.out.cell 3 (v := .slice a2 b.lines.length a5) rfl
  have m4 := HB7.out.cell 4 (v := .slice a3 b.nums.length a6) rfl
  have m5 := HB7.out.cell 5 (v := .int .i64 b.wire) rfl
  have ml := HB7.out.lt
  go_upto_region 17 with fail
  refine wp_region_calls (by kernel_rfl) [.no, .of (BoaS b) (boaW b) (boaW_ok b), .no, .no, .no, .ptr, .any] wc.heap.size (fun (c : (Nat × World)) => c.2.heap.size)
    (fun (c : (Nat × World)) L u => [bif L 1 then Res.snap c else Res.none, bif L 1 then Res.pure (Ext wc c.2 ∧ wc.heap.size ≤ c.1 ∧ OwnF b (u 1) c.1 c.2) else Res.none, bif L 5 then Res.blk (ptrAt (u 5)) (bif L 6 then #[aggAt 0 (u 1), aggAt 1 (u 1), aggAt 2 (u 1), aggAt 3 (u 1), aggAt 4 (u 1), aggAt 5 (u 1)] else #[.int .i64 0, .int .i64 0, .slice none 0 0, .slice none 0 0, .slice none 0 0, .int .i64 0]) else Res.none])
    (0, wc) (by kernel_rfl) (Nat.le_of_ble_eq_true rfl) (fun c L L' u hh => by simp only [hh 1 rfl, hh 5 rfl, hh 6 rfl]) (by simp) (fun _ => Frm.nones _ 3 wc) ?_
  intro T hT hne u hu
  obtain ⟨g1, g2, g3, g4, g5, g6, u1⟩ : BoaS b (u 1) := hu 1 rfl
  obtain ⟨k19, u5⟩ : ∃ k, u 5 = .pointer (some ⟨k, 0, none⟩) := hu 5 rfl
  clear hu
  refine lx_next 1 (by rfl) (by decide) ?_
  dsimp only [List.take, List.drop]
  repeat (go_big_quiet_step (fail))
  refine wpQuiet_nil ?_
  refine lx_loud (by rfl) (by kernel_rfl) ?_ (fun K hK => ?_)
  · intro L w3 hL hd hcl hC hs
    obtain ⟨y, rfl⟩ := hC
    obtain ⟨c, hmc, hs⟩ := hs
    have hzs := y.size
    have h6 := hcl.off hL 40 6 (by kernel_rfl)
    simp only [hL, h6, cond_false] at hs
    have hX : Ext wc y.world := Chg.to_ext (Ext.refl wc) y.chg (by rintro i ⟨_, h⟩; exact h)
    have hmc2 : c.2.heap.size ≤ y.world.heap.size := hmc
    have HS1 := Lib.hid hs
    clear hs
    go_wp2_with fail
    refine (law_ownF ⟨a1, a2, a3, a4, a5, a6⟩ b _ (HB.out.ext hX) HN.out HSM.out).mono ?_
    rintro e w' ⟨v', rfl, o1, o2, o3, o4, o5, o6, hx⟩
    have hsz' := hx.size
    have hV : OwnF b (.agg (v'.cells b)) y.world.heap.size w' := ⟨v', rfl, o1, o2, o3, o4, o5, o6⟩
    obtain ⟨d1, d2, d3, e1, e2, e3⟩ := v'
    have HV := Lib.hid hV
    clear hV o1 o2 o3 o4 o5 o6
    unfold BrdV.cells at *
    simp only at *
    go_wp2
    exact lik_call y (Nat.le_refl _) ⟨_, _, _, _, _, _, rfl⟩ HS1.out 0 1 (by decide) rfl rfl hx (y.world.heap.size, w') (by show w'.heap.size ≤ w'.heap.size; omega) (φ := Ext wc w' ∧ wc.heap.size ≤ y.world.heap.size ∧ OwnF b _ y.world.heap.size w') ⟨hX.trans hx, hzs, HV.out⟩ (by first | (simp [upd, updv, hL, h6]; done) | (simp [upd, updv, hL, h6]; rfl))
  rw [u1]
  go_simp
  with_reducible refine hK _ ?_
  clear hK K
  refine lx_next 3 (by rfl) (by decide) ?_
  dsimp only [List.take, List.drop]
  repeat (go_big_quiet_step (fail))
  refine wpQuiet_nil ?_
  refine lx_loud (by rfl) (by kernel_rfl) ?_ (fun K hK => ?_)
  · intro L w3 hL hd hcl hC hs
    obtain ⟨y, rfl⟩ := hC
    obtain ⟨c, hmc, hs⟩ := hs
    have hzs := y.size
    have h6 := hcl.off hL 40 6 (by kernel_rfl)
    simp only [hL, h6, cond_false] at hs
    go_wp2
    exact lik_set y (Nat.le_refl _) ⟨_, rfl⟩ hs 2 (r' := Res.blk y.world.heap.size #[.int .i64 0, .int .i64 0, .slice none 0 0, .slice none 0 0, .slice none 0 0, .int .i64 0]) rfl (((Ext.refl y.world).alloc _).chg _) (Blk.new _ _ _) (fun k hk => .inr (by rw [show k = y.world.heap.size from hk]; simp)) c hmc (by first | (simp [upd, updv, hL, h6]; done) | (simp [upd, updv, hL, h6]; rfl))
  rw [u5]
  go_simp
  with_reducible refine hK _ ?_
  clear hK K
  refine lx_loud (by rfl) (by kernel_rfl) ?_ (fun K hK => ?_)
  · intro L w3 hL hd hcl hC hs
    obtain ⟨y, rfl⟩ := hC
    obtain ⟨c, hmc, hs⟩ := hs
    have hzs := y.size
    have h5 := hd 5 (by kernel_rfl)
    have h1 := hd 1 (by kernel_rfl)
    simp only [hL, h5, h1, cond_true, cond_false] at hs
    rw [u5] at hs
    have hb : Blk y.world k19 #[.int .i64 0, .int .i64 0, .slice none 0 0, .slice none 0 0, .slice none 0 0, .int .i64 0] := hs.get 2 rfl
    have hlt := hb.lt
    have q0 := hb.cell 0 (v := .int .i64 0) rfl
    have f0 := hb.frozen 0
    have q1 := hb.cell 1 (v := .int .i64 0) rfl
    have f1 := hb.frozen 1
    have q2 := hb.cell 2 (v := .slice none 0 0) rfl
    have f2 := hb.frozen 2
    have q3 := hb.cell 3 (v := .slice none 0 0) rfl
    have f3 := hb.frozen 3
    have q4 := hb.cell 4 (v := .slice none 0 0) rfl
    have f4 := hb.frozen 4
    have q5 := hb.cell 5 (v := .int .i64 0) rfl
    have f5 := hb.frozen 5
    go_wp2
    exact lik_set y (Nat.le_refl _) trivial hs 2 rfl (six_chg (fun k => k = k19) _ rfl _ _ _ _ _ _ ) (r' := Res.blk k19 #[.int .i64 b.eye, .int .i64 b.bull, .slice g1 b.rings.length g4, .slice g2 b.lines.length g5, .slice g3 b.nums.length g6, .int .i64 b.wire]) (six_set hb _ _ _ _ _ _ ) (fun _ hk => .inl hk) c hmc (by first | (simp [upd, updv, hL, h5, h1, u5, u1, aggAt, ptrAt]; done) | (simp [upd, updv, hL, h5, h1, u5, u1, aggAt, ptrAt]; rfl))
  go_simp
  with_reducible refine hK _ ?_
  clear hK K
  refine lx_next 1 (by rfl) (by decide) ?_
  dsimp only [List.take, List.drop]
  repeat (go_big_quiet_step (fail))
  refine wpQuiet_nil ?_
  refine lx_nil ?_
  intro y hs
  obtain ⟨c, hmc, hs⟩ := hs
  rw [u1, u5] at hs
  have hX : Ext wc y.world := Chg.to_ext (Ext.refl wc) y.chg (by rintro i ⟨_, h⟩; exact h)
  have hmc2 : c.2.heap.size ≤ y.world.heap.size := hmc
  have hp1 : Ext wc c.2 ∧ wc.heap.size ≤ c.1 ∧ OwnF b (.agg #[.int .i64 b.eye, .int .i64 b.bull, .slice g1 b.rings.length g4, .slice g2 b.lines.length g5, .slice g3 b.nums.length g6, .int .i64 b.wire]) c.1 c.2 := hs.get 1 rfl
  have hs2 : Frm wc.heap.size [Res.snap (c.1, c.2), Res.pure _, Res.blk k19 #[.int .i64 b.eye, .int .i64 b.bull, .slice g1 b.rings.length g4, .slice g2 b.lines.length g5, .slice g3 b.nums.length g6, .int .i64 b.wire]] y.world := hs
  obtain ⟨hp1a, hp1b, ⟨d1, d2, d3, e1, e2, e3⟩, e, o1, o2, o3, o4, o5, o6⟩ := hp1
  unfold BrdV.cells at e
  simp only [Value.agg.injEq, Array.mk.injEq, List.cons.injEq, Value.slice.injEq, true_and, and_true] at e
  obtain ⟨⟨rfl, rfl⟩, ⟨rfl, rfl⟩, rfl, rfl⟩ := e
  have hF := frm_join hs2 hp1b (snap_chg (hs.get 0 rfl) hp1a hX hmc2) o1 o2 o3 o5 o6 o4
  obtain ⟨lb, lcp, e, hb1, hb2⟩ := own_some o2 (by omega)
  cases e
  obtain ⟨nb, ncp, e, hb3, hb4⟩ := own_some o3 (by omega)
  cases e
  have HFR := Lib.hid hF
  have HXc := Lib.hid hX
  clear hs2 hs hp1a hp1b o1 o2 o3 o4 o5 o6 hF hX hmc2 hmc hT hne u1 u5 hb1 hb2 hb3 hb4 m0 m1 m2 m3 m4 m5 ml
  generalize y.world = W at *
  have hlo : wc.heap.size ≤ W.heap.size := HXc.out.size
  have hMl : (mirL b.lines).length = b.lines.length := mirL_len _
  have hMn : (mirN b.nums).length = b.nums.length := mirN_len _
  have HML1 := Lib.hid hMl
  have HMN1 := Lib.hid hMn
  clear hMl hMn
  have HPT := Lib.hid HG.out.pts
  go_wp2
  go_loopw [21] (fun i wr => ∃ k : Nat, k ≤ b.lines.length ∧ i = .int .i64 k ∧ Frm wc.heap.size [Res.blk k19 #[.int .i64 b.eye, .int .i64 b.bull, .slice g1 b.rings.length g4, .slice (some ⟨lb, 0, none⟩) b.lines.length g5, .slice (some ⟨nb, 0, none⟩) b.nums.length g6, .int .i64 b.wire], Res.own wc.heap.size 88 2 (.slice g1 b.rings.length g4) b.rings.length (b.rings.flatMap Rg.cells),
      Res.own wc.heap.size 53 2 (.slice (some ⟨lb, 0, none⟩) b.lines.length g5) b.lines.length ((mixL (mirL b.lines) b.lines k).flatMap Pt.cells), Res.own wc.heap.size 3 1 (.slice (some ⟨nb, 0, none⟩) b.nums.length g6) b.nums.length ((mixL (mirN b.nums) b.nums k).map (Value.int .i64))] wr ∧ Chg (fun j => wc.heap.size ≤ j) W wr ∧ NoHit b.lines ⟨px, py⟩ k) (fun i _ => b.lines.length - (intOf i).toNat)
  case atStart => exact ⟨0, Nat.zero_le _, rfl, by rw [mix_zero, mix_zero]; exact HFR.out, Chg.refl _ W, fun i h => absurd h (Nat.not_lt_zero _)⟩
  case round =>
    obtain ⟨k, hk, rfl, hF, hC, hNH⟩ := hrel
    have HF := Lib.hid hF
    have HC := Lib.hid hC
    have HNH := Lib.hid hNH
    have HXr := Lib.hid (Chg.to_ext HXc.out hC (fun i hi => hi))
    clear hF hC hNH
    have hlor : wc.heap.size ≤ wr.heap.size := HXr.out.size
    have HBr := Lib.hid (HB.out.ext HXr.out)
    have HB7r := Lib.hid (HB7.out.ext HXr.out)
    have HB8r := Lib.hid (HB8.out.ext HXr.out)
    by_cases hlt : k < b.lines.length
    case pos =>
      have m0 := HB7r.out.cell 0 (v := .int .i64 b.eye) rfl
      have m1 := HB7r.out.cell 1 (v := .int .i64 b.bull) rfl
      have m2 := HB7r.out.cell 2 (v := .slice a1 b.rings.length a4) rfl
      have m3 := HB7r.out.cell 3 (v := .slice a2 b.lines.length a5) rfl
      have m4 := HB7r.out.cell 4 (v := .slice a3 b.nums.length a6) rfl
      have m5 := HB7r.out.cell 5 (v := .int .i64 b.wire) rfl
      have ml := HB7r.out.lt
      obtain ⟨q, hq⟩ : ∃ q : Nat, (b.lines.length - k) % b.lines.length = q := ⟨_, rfl⟩
      have hql : q < b.lines.length := by rw [← hq]; exact Nat.mod_lt _ (by omega)
      have hqm : ((b.lines.length : Int) - (k : Int)).tmod (b.lines.length : Int) = (q : Int) := by
        rw [show ((b.lines.length : Int) - (k : Int)) = ((b.lines.length - k : Nat) : Int) by omega, ← hq]; rfl
      have hlz : ¬ ((b.lines.length : Int) = 0) := by omega
      obtain ⟨bb, bo, e, x0, x1⟩ := HBr.out.lines q hql
      obtain ⟨_, _, e', y0, y1⟩ := HBr.out.lines k hlt
      simp only at e e'
      rw [e] at e'
      cases e'
      subst e
      obtain ⟨bb', bo', e, x0', -⟩ := HB.out.lines q hql
      cases e
      have hbl := lt_of_cell x0'
      simp only at hbl
      have hbln : ¬ (wc.heap.size ≤ bb) := by omega
      have hblr := lt_of_cell x0
      simp only at hblr
      clear x0'
      have hok := HPT.out b.lines[q] (List.getElem_mem hql)
      have hok2 := HPT.out b.lines[k] (List.getElem_mem hlt)
      obtain ⟨⟨zx, zy⟩, hz⟩ : ∃ z, b.lines[q] = z := ⟨_, rfl⟩
      obtain ⟨⟨vx, vy⟩, hv⟩ : ∃ z, b.lines[k] = z := ⟨_, rfl⟩
      have HZ := Lib.hid hz
      have HV := Lib.hid hv
      rw [hz] at x0 x1 hok
      rw [hv] at y0 y1 hok2
      obtain ⟨⟨z1, z2⟩, z3, z4⟩ := hok
      obtain ⟨ok1, ok2⟩ := hok2
      simp only at x0 x1 y0 y1 z1 z2 z3 z4 ok1 ok2
      have hM : (mirL b.lines)[k]'(by rw [HML1.out]; exact hlt) = ⟨-zx, zy⟩ := by
        have h1 := mirL_at b.lines hlt
        unfold ptAt at h1
        rw [List.getD_eq_getElem?_getD, List.getElem?_eq_getElem (by rw [HML1.out]; exact hlt), Option.getD_some, hq, List.getD_eq_getElem?_getD, List.getElem?_eq_getElem hql, Option.getD_some, hz] at h1
        exact h1
      have HSET : Hid ((((mixL (mirL b.lines) b.lines k).flatMap Pt.cells).set (k * 2) (.int .i64 (-zx))).set (k * 2 + 1) (.int .i64 zy) = (mixL (mirL b.lines) b.lines (k + 1)).flatMap Pt.cells) := Lib.hid (by
        have h1 := mix_set (a := mirL b.lines) (b := b.lines) HML1.out (k := k) (by rw [HML1.out]; exact hlt)
        rw [hM] at h1
        rw [← h1]
        exact pts_set _ k ⟨-zx, zy⟩ (by rw [mix_len HML1.out]; exact hlt))
      have HOL := Lib.hid (pt_get (mixL (mirL b.lines) b.lines k) k (by rw [mix_len HML1.out]; exact hlt))
      clear hz hv hM hq
      go_upto_region 21 with fail
      refine wp_region_sep (by kernel_rfl) [.no, .val (.slice (some ⟨lb, 0, none⟩) b.lines.length g5), .no, .no, .no, .no, .no, .no, .no, .no, .no, .no, .no, .no, .no, .no, .no, .no, .no, .no, .no, .no, .no, .no, .no, .no, .any] wc.heap.size
        (fun L _ => [Res.blk k19 #[.int .i64 b.eye, .int .i64 b.bull, .slice g1 b.rings.length g4, .slice (some ⟨lb, 0, none⟩) b.lines.length g5, .slice (some ⟨nb, 0, none⟩) b.nums.length g6, .int .i64 b.wire], Res.own wc.heap.size 88 2 (.slice g1 b.rings.length g4) b.rings.length (b.rings.flatMap Rg.cells), bif L 26 then Res.own wc.heap.size 53 2 (.slice (some ⟨lb, 0, none⟩) b.lines.length g5) b.lines.length ((mixL (mirL b.lines) b.lines (k + 1)).flatMap Pt.cells) else Res.own wc.heap.size 53 2 (.slice (some ⟨lb, 0, none⟩) b.lines.length g5) b.lines.length ((mixL (mirL b.lines) b.lines k).flatMap Pt.cells), Res.own wc.heap.size 3 1 (.slice (some ⟨nb, 0, none⟩) b.nums.length g6) b.nums.length ((mixL (mirN b.nums) b.nums k).map (Value.int .i64))])
        (by kernel_rfl) (Nat.le_of_ble_eq_true rfl) (fun L L' u hh => by simp only [hh 26 rfl]) (fun _ => HF.out) ?_
      intro T hT hne u hu
      have u1 : u 1 = .slice (some ⟨lb, 0, none⟩) b.lines.length g5 := hu 1 rfl
      clear hu
      refine lx_next 1 (by rfl) (by decide) ?_
      dsimp only [List.take, List.drop]
      repeat (go_big_quiet_step (fail))
      refine wpQuiet_nil ?_
      refine lx_loud (by rfl) (by kernel_rfl) ?_ (fun K hK => ?_)
      · intro L w3 hL hd hcl hC hs
        obtain ⟨x, rfl⟩ := hC
        have hcc := (hs.get 0 rfl).cell 3 (v := .slice (some ⟨lb, 0, none⟩) b.lines.length g5) rfl
        have hlt := (hs.get 0 rfl).lt
        go_wp2
        exact aft_same x rfl hs (by simp [upd])
      rw [u1]
      go_simp
      with_reducible refine hK _ ?_
      clear hK K
      refine lx_next 24 (by rfl) (by decide) ?_
      dsimp only [List.take, List.drop]
      repeat (go_big_quiet_step (fail))
      refine wpQuiet_nil ?_
      refine lx_loud (by rfl) (by kernel_rfl) ?_ (fun K hK => ?_)
      · intro L w3 hL hd hcl hC hs
        obtain ⟨x, rfl⟩ := hC
        simp only [hL, cond_false] at hs
        obtain ⟨c0, f0, l0⟩ := own_cellN (hs.get 2 rfl) HOL.out.1
        obtain ⟨c1, f1, -⟩ := own_cellN (hs.get 2 rfl) HOL.out.2
        have HS := Lib.hid hs
        clear hs
        go_wp2
        have h2 := own_setN (i := k * 2 + 1) (own_setN (i := k * 2) (HS.out.get 2 rfl) (.int .i64 (-zx))) (.int .i64 zy)
        rw [HSET.out] at h2
        exact aft_set x hlor trivial HS.out 2 rfl (((Chg.refl (fun j => (Value.slice (some ⟨lb, 0, none⟩) b.lines.length g5).ownBlock = some j) x.world).setCell (p := ⟨lb, k * 2, none⟩) (.inr rfl) _).setCell (p := ⟨lb, k * 2 + 1, none⟩) (.inr rfl) _) (r' := Res.own wc.heap.size 53 2 (.slice (some ⟨lb, 0, none⟩) b.lines.length g5) b.lines.length ((mixL (mirL b.lines) b.lines (k + 1)).flatMap Pt.cells)) h2 (fun _ hk => .inl hk) (by simp [upd])
      go_simp
      with_reducible refine hK _ ?_
      clear hK K
      refine lx_nil ?_
      intro x hF
      have hC2 := HC.out.trans (x.chg.mono (fun j _ ⟨_, h⟩ => h))
      simp only [cond_true] at hF
      clear hT hne u1
      generalize x.world = w2 at *
      have HF2 := Lib.hid hF
      have HC2 := Lib.hid hC2
      clear hF hC2 m0 m1 m2 m3 m4 m5 ml x0 x1 y0 y1 hblr
      have HX2 := Lib.hid (Chg.to_ext HXc.out HC2.out (fun i hi => hi))
      have hlor2 : wc.heap.size ≤ w2.heap.size := HX2.out.size
      have HB2 := Lib.hid (HB.out.ext HX2.out)
      have HB72 := Lib.hid (HB7.out.ext HX2.out)
      obtain ⟨r, hr⟩ : ∃ r : Nat, r = b.lines.length - 1 - k := ⟨_, rfl⟩
      have hrm : ((b.lines.length : Int) - 1 - (k : Int)) = (r : Int) := by omega
      have hkn : k < b.nums.length := by rw [HNL.out]; exact hlt
      have hrl : r < b.nums.length := by rw [HNL.out]; omega
      obtain ⟨nbb, nbo, e, c0⟩ := HB2.out.nums r hrl
      obtain ⟨_, _, e', c0'⟩ := HB.out.nums r hrl
      simp only at e e'
      rw [e] at e'
      cases e'
      subst e
      have hnl2 := lt_of_cell c0
      have hnlw := lt_of_cell c0'
      simp only at hnl2 hnlw
      have hnln : ¬ (wc.heap.size ≤ nbb) := by omega
      clear c0'
      obtain ⟨zr, hzr⟩ : ∃ z, b.nums[r] = z := ⟨_, rfl⟩
      rw [hzr] at c0
      have HNS : Hid ((((mixL (mirN b.nums) b.nums k).map (Value.int .i64)).set k (.int .i64 zr)) = (mixL (mirN b.nums) b.nums (k + 1)).map (Value.int .i64)) := Lib.hid (by
        have h1 := mix_set (a := mirN b.nums) (b := b.nums) HMN1.out (k := k) (by rw [HMN1.out]; exact hkn)
        have h2 : (mirN b.nums)[k]'(by rw [HMN1.out]; exact hkn) = zr := by
          simp only [mirN, List.getElem_map, List.getElem_range]
          rw [show b.nums.length - 1 - k = r by rw [HNL.out]; exact hr.symm, List.getD_eq_getElem?_getD, List.getElem?_eq_getElem hrl]
          exact hzr
        rw [h2] at h1
        rw [← h1, List.map_set])
      have HON : Hid (((mixL (mirN b.nums) b.nums k).map (Value.int .i64))[k]? = some (.int .i64 b.nums[k])) := Lib.hid (by rw [List.getElem?_map, mix_get HMN1.out hkn]; rfl)
      clear hzr hr
      have m0 := HB72.out.cell 0 (v := .int .i64 b.eye) rfl
      have m1 := HB72.out.cell 1 (v := .int .i64 b.bull) rfl
      have m2 := HB72.out.cell 2 (v := .slice a1 b.rings.length a4) rfl
      have m3 := HB72.out.cell 3 (v := .slice (some ⟨bb, bo, none⟩) b.lines.length a5) rfl
      have m4 := HB72.out.cell 4 (v := .slice (some ⟨nbb, nbo, none⟩) b.nums.length a6) rfl
      have m5 := HB72.out.cell 5 (v := .int .i64 b.wire) rfl
      have ml := HB72.out.lt
      go_upto_region 22 with fail
      refine wp_region_sep (by kernel_rfl) [.no, .val (.slice (some ⟨nb, 0, none⟩) b.nums.length g6), .no, .no, .no, .no, .no, .no, .no, .no, .no, .no, .any] wc.heap.size
        (fun L _ => [Res.blk k19 #[.int .i64 b.eye, .int .i64 b.bull, .slice g1 b.rings.length g4, .slice (some ⟨lb, 0, none⟩) b.lines.length g5, .slice (some ⟨nb, 0, none⟩) b.nums.length g6, .int .i64 b.wire], Res.own wc.heap.size 88 2 (.slice g1 b.rings.length g4) b.rings.length (b.rings.flatMap Rg.cells), Res.own wc.heap.size 53 2 (.slice (some ⟨lb, 0, none⟩) b.lines.length g5) b.lines.length ((mixL (mirL b.lines) b.lines (k + 1)).flatMap Pt.cells), bif L 12 then Res.own wc.heap.size 3 1 (.slice (some ⟨nb, 0, none⟩) b.nums.length g6) b.nums.length ((mixL (mirN b.nums) b.nums (k + 1)).map (Value.int .i64)) else Res.own wc.heap.size 3 1 (.slice (some ⟨nb, 0, none⟩) b.nums.length g6) b.nums.length ((mixL (mirN b.nums) b.nums k).map (Value.int .i64))])
        (by kernel_rfl) (Nat.le_of_ble_eq_true rfl) (fun L L' u hh => by simp only [hh 12 rfl]) (fun _ => HF2.out) ?_
      intro T hT hne u hu
      have u1 : u 1 = .slice (some ⟨nb, 0, none⟩) b.nums.length g6 := hu 1 rfl
      clear hu
      refine lx_next 1 (by rfl) (by decide) ?_
      dsimp only [List.take, List.drop]
      repeat (go_big_quiet_step (fail))
      refine wpQuiet_nil ?_
      refine lx_loud (by rfl) (by kernel_rfl) ?_ (fun K hK => ?_)
      · intro L w3 hL hd hcl hC hs
        obtain ⟨x, rfl⟩ := hC
        have hcc := (hs.get 0 rfl).cell 4 (v := .slice (some ⟨nb, 0, none⟩) b.nums.length g6) rfl
        have hlt := (hs.get 0 rfl).lt
        go_wp2
        exact aft_same x rfl hs (by simp [upd])
      rw [u1]
      go_simp
      with_reducible refine hK _ ?_
      clear hK K
      refine lx_next 10 (by rfl) (by decide) ?_
      dsimp only [List.take, List.drop]
      repeat (go_big_quiet_step (fail))
      refine wpQuiet_nil ?_
      refine lx_loud (by rfl) (by kernel_rfl) ?_ (fun K hK => ?_)
      · intro L w3 hL hd hcl hC hs
        obtain ⟨x, rfl⟩ := hC
        simp only [hL, cond_false] at hs
        obtain ⟨d0, f0, l0⟩ := own_cellN (hs.get 3 rfl) HON.out
        have HS := Lib.hid hs
        clear hs
        go_wp2
        have h2 := own_setN (i := k) (HS.out.get 3 rfl) (.int .i64 zr)
        rw [HNS.out] at h2
        exact aft_set x hlor2 trivial HS.out 3 rfl ((Chg.refl (fun j => (Value.slice (some ⟨nb, 0, none⟩) b.nums.length g6).ownBlock = some j) x.world).setCell (p := ⟨nb, k, none⟩) (.inr rfl) _) (r' := Res.own wc.heap.size 3 1 (.slice (some ⟨nb, 0, none⟩) b.nums.length g6) b.nums.length ((mixL (mirN b.nums) b.nums (k + 1)).map (Value.int .i64))) h2 (fun _ hk => .inl hk) (by simp [upd])
      go_simp
      with_reducible refine hK _ ?_
      clear hK K
      refine lx_nil ?_
      intro x hF
      have hC3 := HC2.out.trans (x.chg.mono (fun j _ ⟨_, h⟩ => h))
      simp only [cond_true] at hF
      clear hT hne u1
      generalize x.world = w3 at *
      have HF3 := Lib.hid hF
      have HC3 := Lib.hid hC3
      clear hF hC3 m0 m1 m2 m3 m4 m5 ml c0 hnl2
      have HX3 := Lib.hid (Chg.to_ext HXc.out HC3.out (fun i hi => hi))
      have HB73 := Lib.hid (HB7.out.ext HX3.out)
      have HB83 := Lib.hid (HB8.out.ext HX3.out)
      obtain ⟨_, _, e', y0, y1⟩ := (HB.out.ext HX3.out).lines k hlt
      cases e'
      rw [HV.out] at y0 y1
      simp only at y0 y1
      have yl := lt_of_cell y0
      simp only at yl
      have m0 := HB73.out.cell 0 (v := .int .i64 b.eye) rfl
      have m1 := HB73.out.cell 1 (v := .int .i64 b.bull) rfl
      have m2 := HB73.out.cell 2 (v := .slice a1 b.rings.length a4) rfl
      have m3 := HB73.out.cell 3 (v := .slice (some ⟨bb, bo, none⟩) b.lines.length a5) rfl
      have m4 := HB73.out.cell 4 (v := .slice (some ⟨nbb, nbo, none⟩) b.nums.length a6) rfl
      have m5 := HB73.out.cell 5 (v := .int .i64 b.wire) rfl
      have ml := HB73.out.lt
      have n0 := HB83.out.cell 0 (v := .int .i64 px) rfl
      have n1 := HB83.out.cell 1 (v := .int .i64 py) rfl
      have nl := HB83.out.lt
      obtain ⟨i0, i1⟩ := mul_small ok1 (show -5000 ≤ py ∧ py ≤ 5000 by omega)
      obtain ⟨i2, i3⟩ := mul_small ok2 (show -5000 ≤ px ∧ px ≤ 5000 by omega)
      have HCR : Hid (crossP (ptAt b.lines k) ⟨px, py⟩ = vx * py - vy * px) := Lib.hid (by
        have e : ptAt b.lines k = ⟨vx, vy⟩ := by
          show List.getD _ _ _ = _
          rw [List.getD_eq_getElem?_getD, List.getElem?_eq_getElem hlt, Option.getD_some, HV.out]
        rw [e]; rfl)
      cases hzm : (vx * py == vy * px)
      case false =>
        go_upto_region 23 with fail
        refine wp_region_later (by kernel_rfl) (by kernel_rfl) ?_
        repeat (go_big_quiet_step (fail))
        refine wpQuiet_nil ?_
        intro w4 hw4
        obtain ⟨⟨w4, hx4⟩, rfl⟩ := hw4
        have HF4 := Lib.hid (HF3.out.ext hx4)
        have HC4 := Lib.hid (HC3.out.ext' hx4)
        have HN4 : Hid (NoHit b.lines ⟨px, py⟩ (k + 1)) := Lib.hid (by
          intro i hi
          rcases Nat.lt_or_ge i k with h | h
          · exact HNH.out i h
          · obtain rfl : i = k := by omega
            rw [HCR.out]
            have : ¬ (vx * py = vy * px) := by simpa using hzm
            omega)
        clear hx4
        go_wp2
        go_roundw
        case rel => exact ⟨k + 1, by omega, by go_num, HF4.out, HC4.out, HN4.out⟩
        case measure => simp [intOf]; omega
      case true =>
        go_upto_region 23 with fail
        refine wp_region_later (by kernel_rfl) (by kernel_rfl) ?_
        repeat (go_big_quiet_step (fail))
        refine wpQuiet_nil ?_
        intro w4 hw4
        obtain ⟨⟨w4, hx4⟩, rfl⟩ := hw4
        have HX4 := Lib.hid (HX.out.trans (HX3.out.trans hx4))
        clear hx4
        go_wp2_with fail
        refine (law_known _).mono ?_
        rintro e w19 ⟨rfl, hx19⟩
        have HXE := Lib.hid (HX4.out.trans hx19)
        clear hx19
        go_wp2
        go_ret
        exact ⟨rfl, HXE.out⟩
    case neg =>
      obtain rfl : k = b.lines.length := by omega
      have HF1 := HF.out
      have hmn := mix_all HMN1.out
      rw [HNL.out] at hmn
      rw [mix_all HML1.out, hmn] at HF1
      have hRg : OwnRg wr wc.heap.size (.slice g1 b.rings.length g4) b.rings := HF1.get 1 rfl
      have hPt : OwnPt wr wc.heap.size (.slice (some ⟨lb, 0, none⟩) (mirL b.lines).length g5) (mirL b.lines) := by unfold OwnPt; rw [HML1.out]; exact HF1.get 2 rfl
      have hIn : OwnI wr wc.heap.size (.slice (some ⟨nb, 0, none⟩) (mirN b.nums).length g6) (mirN b.nums) := by unfold OwnI; rw [HMN1.out]; exact HF1.get 3 rfl
      have HK19 := Lib.hid (HF1.get 0 rfl)
      obtain ⟨_, _, e1, rg, -⟩ := hRg.cells
      obtain ⟨_, _, e2, pt, -⟩ := hPt.cells
      obtain ⟨_, _, e3, im⟩ := hIn.cells
      cases e1
      cases e2
      cases e3
      have hpm := ptB_of (p := mirP ⟨px, py⟩) (by show _ ≤ -px ∧ -px ≤ _; omega) (by show _ ≤ py ∧ py ≤ _; omega)
      have hcb := calls_bed ⟨g1, some ⟨lb, 0, none⟩, some ⟨nb, 0, none⟩, g4, g5, g6⟩ (mirB b) (mirP ⟨px, py⟩) wr ⟨rg, pt, im⟩ HSMM.out HME.out hpm
      have hpt : 0 < b.lines.length := by omega
      rw [mir_bed HG.out HLI.out HML.out HNH.out, mir_wire hpt, HA.out, HWI.out] at hcb
      unfold BrdV.cells mirB at hcb
      simp only [HML1.out, HMN1.out] at hcb
      have HCB := Lib.hid hcb
      clear hmn HF1 hRg hPt hIn rg pt im hpm hcb hpt
      have m0 := HK19.out.cell 0 (v := .int .i64 b.eye) rfl
      have m1 := HK19.out.cell 1 (v := .int .i64 b.bull) rfl
      have m2 := HK19.out.cell 2 (v := .slice g1 b.rings.length g4) rfl
      have m3 := HK19.out.cell 3 (v := .slice (some ⟨lb, 0, none⟩) b.lines.length g5) rfl
      have m4 := HK19.out.cell 4 (v := .slice (some ⟨nb, 0, none⟩) b.nums.length g6) rfl
      have m5 := HK19.out.cell 5 (v := .int .i64 b.wire) rfl
      have ml := HK19.out.lt
      have n0 := HB8r.out.cell 0 (v := .int .i64 px) rfl
      have n1 := HB8r.out.cell 1 (v := .int .i64 py) rfl
      have nl := HB8r.out.lt
      go_wp2_with fail
      refine HCB.out.mono ?_
      rintro e w5 ⟨rfl, hx5⟩
      have HX5 := Lib.hid (HX.out.trans (HXr.out.trans hx5))
      clear hx5
      go_wp2_with fail
      refine (law_known _).mono ?_
      rintro e w19 ⟨rfl, hx19⟩
      have HXE := Lib.hid (HX5.out.trans hx19)
      clear hx19
      go_wp2
      go_ret
      exact ⟨rfl, HXE.out⟩
end Go.Proofs.Ytlkbbcfbnbnagaa
