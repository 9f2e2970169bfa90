/-
  Chapter 3: Hand.tale, what a visit leaves.
-/
import Derived.Test.YtocnglplhnhllaaTak
namespace Go.Proofs.Ytocnglplhnhllaa
open Go.RowKit Go.BigFrame
attribute [local go_sem] Later.cell Later.frozen Lat.cell Lat.frozen
set_option maxRecDepth 100000 in
set_option maxHeartbeats 16000000 in
theorem tale_tail (c : Code) (hc : codeFrom 23 (Try.f34.body.getD .skip) = some c) (B K k4 k17 k18 gl cl gt ct gi ci v p : Nat) (cs : List Cnt) (cst cgi cgo fi ro yl dp : Int) (eq yi : Bool) (cv vv ev av bv : Value) (gr : Int) (xl xd E A bs : List Int) (xi : List Bool) (l : List LV) (us : List Value) (w2 w5 : World)
    (HK : Hid (Blk w2 K #[cv, .int .i64 fi, .int .i64 ro, .bool eq])) (hbe : B ≤ w2.heap.size) (hbe2 : w2.heap.size ≤ B) (_hK : K < w2.heap.size)
    (hpl : p < xl.length) (hpd : p < xd.length) (hpi : p < xi.length) (hpn : p < cs.length) (hn5 : cs.length ≤ 5) (HDP : Hid (xd[p] = dp)) (hdp : 0 ≤ dp ∧ dp ≤ 1000) (hv60 : v < 60) (_hE : E.length ≤ 1000) (hgr : 0 ≤ gr ∧ gr ≤ 1000) (hll : l.length ≤ 1000) (hbl : bs.length ≤ 3)
    (HS5 : Hid (Frm B [Res.blk k4 #[vv, (.slice (some ⟨gl, 0, none⟩) cs.length cl), (.slice (some ⟨gt, 0, none⟩) cs.length ct), (.slice (some ⟨gi, 0, none⟩) cs.length ci), ev, av, .int .i64 gr, .bool false], Res.own B 3 1 ((.slice (some ⟨gl, 0, none⟩) cs.length cl)) cs.length (xl.map (Value.int .i64)), Res.own B 3 1 ((.slice (some ⟨gt, 0, none⟩) cs.length ct)) cs.length (xd.map (Value.int .i64)), Res.own B 4 1 ((.slice (some ⟨gi, 0, none⟩) cs.length ci)) cs.length (xi.map Value.bool), Res.own B 3 1 (ev) (E : List Int).length ((E : List Int).map (Value.int .i64)), Res.own B 3 1 (av) (A : List Int).length ((A : List Int).map (Value.int .i64)), Res.vis B (vv) l us, Res.blk k17 #[.int .i64 cst, .int .i64 cgi, .int .i64 cgo], Res.blk k18 #[.int .i64 p, bv], Res.own B 34 1 (bv) bs.length (bs.map (Value.int .i64))] w5)) (HX5 : Hid (Ext w2 w5)) {s0 s1 s2 s6 s7 s14 s15 s16 s17 s18 s19 s20 s21 s22 s23 s24 s25 s26 s27 s28 s29 s30 s31 s32 s33 s34 s35 s36 s37 s38 s39 s40 s41 s42 s43 s44 s45 s46 s47 s48 s49 s50 s51 s52 s53 s54 s55 s56 s57 s58 s59 s60 s61 s62 s63 s64 s65 s66 s67 s68 s69 s70 s71 s72 s73 s74 s75 s76 s77 s78 s79 s80 s81 s82 s83 s84 s85 s86 s87 s88 s89 s90 s91 s92 s93 s94 s95 s96 s97 s98 s99 s100 s101 s102 s103 s104 s105 s106 s107 s108 s109 s110 s111 s112 s113 s114 s115 s116 s117 s118 s119 s120 s121 s122 s123 s124 s125 s126 s127 s128 s129 s130 s131 s132 s133 s134 s135 s136 s137 s138 s139 s140 s141 s142 s143 s144 s145 s146 s147 s148 s149 s150 s151 s152 s153 s154 s155 s156 s157 s158 s159 s160 s161 s162 s163 s164 s165 s166 s167 s168 s169 s170 s171 s172 s173 s174 s175 s176 s177 s178 s179 s180 s181 s182 s183 s184 s185 s186 s187 s188 s189 s190 s191 s192 s193 s194 s195 s196 s197 s198 s199 s200 s201 s202 s203 s204 s205 s206 s207 s208 s209 s210 s211 s212 s213 s214 s215 s216 s217 s218 s219 s220 s221 s222 s223 s224 s225 s226 s227 s228 s229 s230 s231 s232 s233 s234 s235 s236 s237 : Value} (Q : Exit → Act → World → Prop)
    (hQ : ∀ ⦃r55 r56 r57 r58 r59 r60 r61 r62 r63 r64 r65 r66 r67 r68 r69 r70 r71 r72 r73 r74 r75 r76 r77 r78 r79 r80 r81 r82 r83 r84 r85 r86 r87 r88 r89 r90 r91 r92 r93 r94 r95 r96 r97 r98 r99 r100 r101 r102 r103 r104 r105 r106 r107 r108 r109 r110 r111 r112 r113 r114 r115 r116 r117 r118 r119 r120 r121 r122 r123 r124 r125 r126 r127 r128 r129 r130 r131 r132 r133 r134 r135 r136 r137 r138 r139 r140 r141 r142 r143 r144 r145 r146 r147 r148 r149 r150 r151 r152 r153 r154 r155 r156 r157 r158 r159 r160 r161 r162 r163 r164 r165 r166 r167 r168 r169 r170 r171 r172 r173 r174 r175 r176 r177 r178 r179 r180 r181 r182 r183 r184 r185 r186 r187 r188 r189 r190 r191 r192 r193 r194 r195 r196 r197 r198 r199 r200 r201 r202 r203 r204 r205 r206 r207 r208 r209 r210 r211 r212 r213 r214 r215 r216 r217 r218 r219 r220 r221 r222 r223 r224 r225 r226 r227 r228 r229 r230 r231 r232 r233 r234 r235 r236 : Value⦄ (vv' : Value) (us' : List Value) (wx : World), Frm B [Res.blk k4 #[vv', (.slice (some ⟨gl, 0, none⟩) cs.length cl), (.slice (some ⟨gt, 0, none⟩) cs.length ct), (.slice (some ⟨gi, 0, none⟩) cs.length ci), ev, av, .int .i64 (rndN gr v cs.length), .bool (ovrN eq E.length v cs.length (rndN gr v cs.length) ro)], Res.own B 3 1 ((.slice (some ⟨gl, 0, none⟩) cs.length cl)) cs.length ((xl.set p yl).map (Value.int .i64)), Res.own B 3 1 ((.slice (some ⟨gt, 0, none⟩) cs.length ct)) cs.length ((xd.set p (dp + bs.length)).map (Value.int .i64)), Res.own B 4 1 ((.slice (some ⟨gi, 0, none⟩) cs.length ci)) cs.length ((xi.set p yi).map Value.bool), Res.own B 3 1 (ev) (E : List Int).length ((E : List Int).map (Value.int .i64)), Res.own B 3 1 (av) (A : List Int).length ((A : List Int).map (Value.int .i64)), Res.vis B (vv') (l ++ [(⟨p, bs⟩ : LV)]) us'] wx → Ext w2 wx → Q .normal { tmps := #[s0, s1, s2, .pointer (some ⟨K, 0, none⟩), .pointer (some ⟨k4, 0, none⟩), .int .i64 cs.length, s6, s7, .int .i64 v, .int .i64 p, .pointer (some ⟨k17, 0, none⟩), .int .i64 yl, .bool yi, .pointer (some ⟨k18, 0, none⟩), s14, s15, s16, s17, s18, s19, s20, s21, s22, s23, s24, s25, s26, s27, s28, s29, s30, s31, s32, s33, s34, s35, s36, s37, s38, s39, s40, s41, s42, s43, s44, s45, s46, s47, s48, s49, s50, s51, s52, s53, s54, r55, r56, r57, r58, r59, r60, r61, r62, r63, r64, r65, r66, r67, r68, r69, r70, r71, r72, r73, r74, r75, r76, r77, r78, r79, r80, r81, r82, r83, r84, r85, r86, r87, r88, r89, r90, r91, r92, r93, r94, r95, r96, r97, r98, r99, r100, r101, r102, r103, r104, r105, r106, r107, r108, r109, r110, r111, r112, r113, r114, r115, r116, r117, r118, r119, r120, r121, r122, r123, r124, r125, r126, r127, r128, r129, r130, r131, r132, r133, r134, r135, r136, r137, r138, r139, r140, r141, r142, r143, r144, r145, r146, r147, r148, r149, r150, r151, r152, r153, r154, r155, r156, r157, r158, r159, r160, r161, r162, r163, r164, r165, r166, r167, r168, r169, r170, r171, r172, r173, r174, r175, r176, r177, r178, r179, r180, r181, r182, r183, r184, r185, r186, r187, r188, r189, r190, r191, r192, r193, r194, r195, r196, r197, r198, r199, r200, r201, r202, r203, r204, r205, r206, r207, r208, r209, r210, r211, r212, r213, r214, r215, r216, r217, r218, r219, r220, r221, r222, r223, r224, r225, r226, r227, r228, r229, r230, r231, r232, r233, r234, r235, r236, s237], defers := [] } wx) :
    c.wp Try.prog Q { tmps := #[s0, s1, s2, .pointer (some ⟨K, 0, none⟩), .pointer (some ⟨k4, 0, none⟩), .int .i64 cs.length, s6, s7, .int .i64 v, .int .i64 p, .pointer (some ⟨k17, 0, none⟩), .int .i64 yl, .bool yi, .pointer (some ⟨k18, 0, none⟩), s14, s15, s16, s17, s18, s19, s20, s21, s22, s23, s24, s25, s26, s27, s28, s29, s30, s31, s32, s33, s34, s35, s36, s37, s38, s39, s40, s41, s42, s43, s44, s45, s46, s47, s48, s49, s50, s51, s52, s53, s54, s55, s56, s57, s58, s59, s60, s61, s62, s63, s64, s65, s66, s67, s68, s69, s70, s71, s72, s73, s74, s75, s76, s77, s78, s79, s80, s81, s82, s83, s84, s85, s86, s87, s88, s89, s90, s91, s92, s93, s94, s95, s96, s97, s98, s99, s100, s101, s102, s103, s104, s105, s106, s107, s108, s109, s110, s111, s112, s113, s114, s115, s116, s117, s118, s119, s120, s121, s122, s123, s124, s125, s126, s127, s128, s129, s130, s131, s132, s133, s134, s135, s136, s137, s138, s139, s140, s141, s142, s143, s144, s145, s146, s147, s148, s149, s150, s151, s152, s153, s154, s155, s156, s157, s158, s159, s160, s161, s162, s163, s164, s165, s166, s167, s168, s169, s170, s171, s172, s173, s174, s175, s176, s177, s178, s179, s180, s181, s182, s183, s184, s185, s186, s187, s188, s189, s190, s191, s192, s193, s194, s195, s196, s197, s198, s199, s200, s201, s202, s203, s204, s205, s206, s207, s208, s209, s210, s211, s212, s213, s214, s215, s216, s217, s218, s219, s220, s221, s222, s223, s224, s225, s226, s227, s228, s229, s230, s231, s232, s233, s234, s235, s236, s237], defers := [] } w5 := by
  let Q2 : Exit → Act → World → Prop := bodyPost Try.prog Try.f34 fun _ _ => True
  have HQ := Lib.hid hQ
  clear hQ
  simp only [Try.f34, Option.getD_some, codeFrom, ↓reduceIte, Nat.reduceEqDiff, Option.some.injEq] at hc
  subst hc
  obtain ⟨nb, nc, rfl⟩ := own_shape (HS5.out.get 9 rfl)
  have hsz5 := HX5.out.size
  have hlo : B ≤ w5.heap.size := by omega
  have hl4 := (HS5.out.get 0 rfl : Blk w5 k4 _).lt
  obtain ⟨hdp0, hdp1⟩ := hdp
  obtain ⟨hgr0, hgr1⟩ := hgr
  obtain ⟨hgl0, hgl1⟩ := HS5.out.lt 1 rfl gl rfl
  obtain ⟨hgi0, hgi1⟩ := HS5.out.lt 3 rfl gi rfl
  go_upto_region 23 with fail
  refine wp_region_sep (by kernel_rfl) [.no, .val (.slice (some ⟨gl, 0, none⟩) cs.length cl), .no, .no, .val (.slice (some ⟨gi, 0, none⟩) cs.length ci), .no, .no, .val vv, .val (.agg #[.int .i64 p, (Value.slice nb bs.length nc)]), .box 1, .app (l.length + 1), .no, .no, .no, .any, .no, .any, .no, .any] B
    (fun L u => [Res.blk k4 #[(bif L 14 then u 10 else vv), (.slice (some ⟨gl, 0, none⟩) cs.length cl), (.slice (some ⟨gt, 0, none⟩) cs.length ct), (.slice (some ⟨gi, 0, none⟩) cs.length ci), ev, av, .int .i64 gr, .bool false], Res.own B 3 1 (.slice (some ⟨gl, 0, none⟩) cs.length cl) cs.length (bif L 16 then ((xl.map (Value.int .i64)).set p (.int .i64 yl)) else (xl.map (Value.int .i64))), Res.own B 3 1 (.slice (some ⟨gt, 0, none⟩) cs.length ct) cs.length (xd.map (Value.int .i64)), Res.own B 4 1 (.slice (some ⟨gi, 0, none⟩) cs.length ci) cs.length (bif L 18 then ((xi.map Value.bool).set p (.bool yi)) else (xi.map Value.bool)), Res.own B 3 1 ev E.length (E.map (Value.int .i64)), Res.own B 3 1 av A.length (A.map (Value.int .i64)),
      (bif L 10 then Res.vis B (u 10) (l ++ [(⟨p, bs⟩ : LV)]) (us ++ [(Value.slice nb bs.length nc)]) else Res.vis B vv l us), Res.blk k17 #[.int .i64 cst, .int .i64 cgi, .int .i64 cgo], Res.blk k18 #[.int .i64 p, (Value.slice nb bs.length nc)], (bif L 10 then Res.none else Res.own B 34 1 (Value.slice nb bs.length nc) bs.length (bs.map (Value.int .i64))), (bif L 9 then Res.own B 84 2 (u 9) 1 [.int .i64 p, (Value.slice nb bs.length nc)] else Res.none)])
    (by kernel_rfl) (Nat.le_of_ble_eq_true rfl) (fun L L' u hh => by simp only [hh 14 rfl, hh 16 rfl, hh 18 rfl, hh 10 rfl, hh 9 rfl]) (fun _ => HS5.out.more (r := Res.none) trivial fun _ h => h) ?_
  intro T hT hne u hu
  have u1 : u 1 = (.slice (some ⟨gl, 0, none⟩) cs.length cl) := hu 1 rfl
  have u4 : u 4 = (.slice (some ⟨gi, 0, none⟩) cs.length ci) := hu 4 rfl
  have u7 : u 7 = vv := hu 7 rfl
  have u8 : u 8 = .agg #[.int .i64 p, (Value.slice nb bs.length nc)] := hu 8 rfl
  obtain ⟨k9, u9⟩ : ∃ k, u 9 = .slice (some ⟨k, 0, none⟩) 1 1 := hu 9 rfl
  obtain ⟨a10, c10, u10⟩ : ∃ a c, u 10 = .slice a (l.length + 1) c := hu 10 rfl
  clear hu
  refine lx_next 1 (by rfl) (by decide) ?_
  dsimp only [List.take, List.drop]
  repeat (go_big_quiet_step (fail))
  refine wpQuiet_nil ?_
  refine lx_loud (by rfl) (by kernel_rfl) ?_ (fun K hK => ?_)
  · intro L w3 hL hd hcl hC hs
    obtain ⟨x, rfl⟩ := hC
    have hzs := x.size
    have h14 := hcl.off hL 40 14 (by kernel_rfl)
    simp only [h14, cond_false] at hs
    have hcc := (hs.get 0 rfl).cell 1 (v := (.slice (some ⟨gl, 0, none⟩) cs.length cl)) rfl
    have hlt := (hs.get 0 rfl).lt
    go_wp2
    exact aft_same x rfl hs (by first | (simp [upd, updv, h14]; done) | (simp [upd, updv, h14, hL]; rfl))
  rw [u1]
  go_simp
  with_reducible refine hK _ ?_
  clear hK K
  refine lx_next 2 (by rfl) (by decide) ?_
  dsimp only [List.take, List.drop]
  repeat (go_big_quiet_step (fail))
  refine wpQuiet_nil ?_
  refine lx_loud (by rfl) (by kernel_rfl) ?_ (fun K hK => ?_)
  · intro L w3 hL hd hcl hC hs
    obtain ⟨x, rfl⟩ := hC
    have hzs := x.size
    have h14 := hcl.off hL 40 14 (by kernel_rfl)
    simp only [h14, cond_false] at hs
    have hcc := (hs.get 0 rfl).cell 3 (v := (.slice (some ⟨gi, 0, none⟩) cs.length ci)) rfl
    have hlt := (hs.get 0 rfl).lt
    go_wp2
    exact aft_same x rfl hs (by first | (simp [upd, updv, h14]; done) | (simp [upd, updv, h14, hL]; rfl))
  rw [u4]
  go_simp
  with_reducible refine hK _ ?_
  clear hK K
  refine lx_next 2 (by rfl) (by decide) ?_
  dsimp only [List.take, List.drop]
  repeat (go_big_quiet_step (fail))
  refine wpQuiet_nil ?_
  refine lx_loud (by rfl) (by kernel_rfl) ?_ (fun K hK => ?_)
  · intro L w3 hL hd hcl hC hs
    obtain ⟨x, rfl⟩ := hC
    have hzs := x.size
    have h14 := hcl.off hL 40 14 (by kernel_rfl)
    simp only [h14, cond_false] at hs
    have hcc := (hs.get 0 rfl).cell 0 (v := vv) rfl
    have hlt := (hs.get 0 rfl).lt
    go_wp2
    exact aft_same x rfl hs (by first | (simp [upd, updv, h14]; done) | (simp [upd, updv, h14, hL]; rfl))
  rw [u7]
  go_simp
  with_reducible refine hK _ ?_
  clear hK K
  refine lx_loud (by rfl) (by kernel_rfl) ?_ (fun K hK => ?_)
  · intro L w3 hL hd hcl hC hs
    obtain ⟨x, rfl⟩ := hC
    have hzs := x.size
    have h14 := hcl.off hL 40 14 (by kernel_rfl)
    simp only [h14, cond_false] at hs
    have hb := hs.get 8 rfl
    have hlt := hb.lt
    have q0 := hb.cell 0 (v := .int .i64 p) rfl
    have q1 := hb.cell 1 (v := (Value.slice nb bs.length nc)) rfl
    go_wp2
    exact aft_same x rfl hs (by first | (simp [upd, updv, h14]; done) | (simp [upd, updv, h14, hL]; rfl))
  rw [u8]
  go_simp
  with_reducible refine hK _ ?_
  clear hK K
  refine lx_loud (by rfl) (by kernel_rfl) ?_ (fun K hK => ?_)
  · intro L w3 hL hd hcl hC hs
    obtain ⟨x, rfl⟩ := hC
    have hzs := x.size
    have h10 := hcl.off hL 40 10 (by kernel_rfl)
    simp only [hL, h10, cond_false] at hs
    go_wp2
    exact aft_set x hlo ⟨_, rfl⟩ hs 10 (r' := Res.own B 84 2 (.slice (some ⟨x.world.heap.size, 0, none⟩) 1 1) 1 [.int .i64 p, (Value.slice nb bs.length nc)]) rfl (((Ext.refl x.world).alloc _).chg _) (own_box (by omega) (by decide) rfl) (fun k hk => .inr (by rw [← own_blk hk]; simp)) (by first | (simp [upd, updv, h10, hL]; done) | (simp [upd, updv, h10, hL]; rfl))
  rw [u9]
  go_simp
  with_reducible refine hK _ ?_
  clear hK K
  refine lx_loud (by rfl) (by kernel_rfl) ?_ (fun K hK => ?_)
  · intro L w3 hL hd hcl hC hs
    obtain ⟨x, rfl⟩ := hC
    have hzs := x.size
    have h14 := hcl.off hL 40 14 (by kernel_rfl)
    have h9 := hd 9 (by kernel_rfl)
    simp only [hL, h14, h9, cond_true, cond_false] at hs
    rw [u9] at hs
    refine wp_append_sep rfl _ _ 43 84 _ 2 _ rfl info_vis (by kernel_rfl) rfl (by decide) B _ _ _ rfl (hs.get 6 rfl).outer B k9 1 1 _ rfl (hs.get 10 rfl) (fun u hu => by simp at hu; rcases hu with rfl | rfl <;> rfl) (by omega) (by decide) (by omega) ?_
    intro v' w4 ho4 hC4 hn4
    obtain ⟨aq, ac, rfl⟩ := own_shape ho4
    go_wp2
    refine aft_join x hlo ⟨_, _, rfl⟩ hs 6 9 (by decide) rfl rfl hC4 (fun k hk => .inl hk) (r' := Res.vis B (.slice aq (l.length + 1) ac) (l ++ [(⟨p, bs⟩ : LV)]) (us ++ [(Value.slice nb bs.length nc)])) (VisO.pushC (hs.get 6 rfl) (x := ⟨p, bs⟩) (hs.get 9 rfl) ho4 hC4) (fun k hk => ?_) (by first | (simp [upd, updv, h14, h9, hL, u9]; done) | (simp [upd, updv, h14, h9, hL, u9]; rfl))
    rcases hk with hk | ⟨u, hu, hk⟩
    · rcases hn4 k hk with h | h
      · exact .inl (.inl h)
      · exact .inr (.inr h)
    · rcases List.mem_append.1 hu with hu | hu
      · exact .inl (.inr ⟨u, hu, hk⟩)
      · rw [List.mem_singleton.1 hu] at hk
        exact .inr (.inl hk)
  rw [u10]
  go_simp
  with_reducible refine hK _ ?_
  clear hK K
  refine lx_next 3 (by rfl) (by decide) ?_
  dsimp only [List.take, List.drop]
  repeat (go_big_quiet_step (fail))
  refine wpQuiet_nil ?_
  refine lx_loud (by rfl) (by kernel_rfl) ?_ (fun K hK => ?_)
  · intro L w3 hL hd hcl hC hs
    obtain ⟨x, rfl⟩ := hC
    have hzs := x.size
    have h10 := hd 10 (by kernel_rfl)
    simp only [hL, h10, cond_true, cond_false] at hs
    have f0 := (hs.get 0 rfl).frozen 0
    have hlt := (hs.get 0 rfl).lt
    have hcc := (hs.get 0 rfl).cell 0 rfl
    go_wp2
    exact aft_store x hlo trivial hs 0 rfl (by first | (simp [upd, updv, h10, hL, u10]; done) | (simp [upd, updv, h10, hL, u10]; rfl))
  go_simp
  with_reducible refine hK _ ?_
  clear hK K
  refine lx_next 1 (by rfl) (by decide) ?_
  dsimp only [List.take, List.drop]
  repeat (go_big_quiet_step (fail))
  refine wpQuiet_nil ?_
  refine lx_loud (by rfl) (by kernel_rfl) ?_ (fun K hK => ?_)
  · intro L w3 hL hd hcl hC hs
    obtain ⟨x, rfl⟩ := hC
    have hzs := x.size
    simp only [hL, cond_false] at hs
    have hcc := own_int_at (hs.get 1 rfl) hpl
    have hfz := World.ownsRow.frozenAt (hs.get 1 rfl) p
    have hlt := lt_of_cell hcc
    simp only at hlt
    go_wp2
    exact aft_cell x hlo trivial hs 1 rfl rfl (by first | (simp [upd, updv, hL]; done) | (simp [upd, updv, hL]; rfl))
  go_simp
  with_reducible refine hK _ ?_
  clear hK K
  refine lx_next 1 (by rfl) (by decide) ?_
  dsimp only [List.take, List.drop]
  repeat (go_big_quiet_step (fail))
  refine wpQuiet_nil ?_
  refine lx_loud (by rfl) (by kernel_rfl) ?_ (fun K hK => ?_)
  · intro L w3 hL hd hcl hC hs
    obtain ⟨x, rfl⟩ := hC
    have hzs := x.size
    simp only [hL, cond_false] at hs
    have hcc := own_bool_at (hs.get 3 rfl) hpi
    have hfz := World.ownsRow.frozenAt (hs.get 3 rfl) p
    have hlt := lt_of_cell hcc
    simp only at hlt
    go_wp2
    exact aft_cell x hlo trivial hs 3 rfl rfl (by first | (simp [upd, updv, hL]; done) | (simp [upd, updv, hL]; rfl))
  go_simp
  with_reducible refine hK _ ?_
  clear hK K
  refine lx_nil ?_
  intro x hs
  rw [u10] at hs
  have hs2 : Frm B ([Res.blk k4 #[.slice a10 (l.length + 1) c10, (.slice (some ⟨gl, 0, none⟩) cs.length cl), (.slice (some ⟨gt, 0, none⟩) cs.length ct), (.slice (some ⟨gi, 0, none⟩) cs.length ci), ev, av, .int .i64 gr, .bool false], Res.own B 3 1 (.slice (some ⟨gl, 0, none⟩) cs.length cl) cs.length ((xl.set p yl).map (Value.int .i64)), Res.own B 3 1 (.slice (some ⟨gt, 0, none⟩) cs.length ct) cs.length (xd.map (Value.int .i64)), Res.own B 4 1 (.slice (some ⟨gi, 0, none⟩) cs.length ci) cs.length ((xi.set p yi).map Value.bool), Res.own B 3 1 ev E.length (E.map (Value.int .i64)), Res.own B 3 1 av A.length (A.map (Value.int .i64)), Res.vis B (.slice a10 (l.length + 1) c10) (l ++ [(⟨p, bs⟩ : LV)]) (us ++ [(Value.slice nb bs.length nc)]), Res.blk k17 #[.int .i64 cst, .int .i64 cgi, .int .i64 cgo], Res.blk k18 #[.int .i64 p, (Value.slice nb bs.length nc)]] ++ [Res.none, Res.own B 84 2 (u 9) 1 [.int .i64 p, (Value.slice nb bs.length nc)]]) x.world := by
    rw [List.map_set, List.map_set]
    exact hs
  have HS6 := Lib.hid hs2.left
  have HX6 := Lib.hid (Chg.to_ext HX5.out x.chg (by rintro i ⟨_, h⟩; have h : B ≤ i := h; omega))
  clear hs hs2 hT hne u1 u4 u7 u8 u9 u10 hlo hl4 hgl0 hgl1 hgi0 hgi1 HS5 HX5 hsz5
  generalize x.world = w6 at *
  clear x
  have hsz6 := HX6.out.size
  have hlo : B ≤ w6.heap.size := by omega
  have hl4 := (HS6.out.get 0 rfl : Blk w6 k4 _).lt
  obtain ⟨hgt0, hgt1⟩ := HS6.out.lt 2 rfl gt rfl
  go_upto_region 24 with fail
  refine wp_region_sep (by kernel_rfl) [.no, .val (.slice (some ⟨gt, 0, none⟩) cs.length ct), .no, .no, .val (.int .i64 dp), .no, .val (Value.slice nb bs.length nc), .no, .no, .no, .any] B
    (fun L u => [Res.blk k4 #[.slice a10 (l.length + 1) c10, (.slice (some ⟨gl, 0, none⟩) cs.length cl), (.slice (some ⟨gt, 0, none⟩) cs.length ct), (.slice (some ⟨gi, 0, none⟩) cs.length ci), ev, av, .int .i64 gr, .bool false], Res.own B 3 1 (.slice (some ⟨gl, 0, none⟩) cs.length cl) cs.length ((xl.set p yl).map (Value.int .i64)), Res.own B 3 1 (.slice (some ⟨gt, 0, none⟩) cs.length ct) cs.length (bif L 10 then ((xd.map (Value.int .i64)).set p (.int .i64 (dp + bs.length))) else (xd.map (Value.int .i64))), Res.own B 4 1 (.slice (some ⟨gi, 0, none⟩) cs.length ci) cs.length ((xi.set p yi).map Value.bool), Res.own B 3 1 ev E.length (E.map (Value.int .i64)), Res.own B 3 1 av A.length (A.map (Value.int .i64)), Res.vis B (.slice a10 (l.length + 1) c10) (l ++ [(⟨p, bs⟩ : LV)]) (us ++ [(Value.slice nb bs.length nc)]), Res.blk k17 #[.int .i64 cst, .int .i64 cgi, .int .i64 cgo], Res.blk k18 #[.int .i64 p, (Value.slice nb bs.length nc)]])
    (by kernel_rfl) (Nat.le_of_ble_eq_true rfl) (fun L L' u hh => by simp only [hh 10 rfl]) (fun _ => HS6.out) ?_
  intro T hT hne u hu
  have u1 : u 1 = (.slice (some ⟨gt, 0, none⟩) cs.length ct) := hu 1 rfl
  have u4 : u 4 = .int .i64 dp := hu 4 rfl
  have u6 : u 6 = (Value.slice nb bs.length nc) := hu 6 rfl
  clear hu
  refine lx_next 1 (by rfl) (by decide) ?_
  dsimp only [List.take, List.drop]
  repeat (go_big_quiet_step (fail))
  refine wpQuiet_nil ?_
  refine lx_loud (by rfl) (by kernel_rfl) ?_ (fun K hK => ?_)
  · intro L w3 hL hd hcl hC hs
    obtain ⟨x, rfl⟩ := hC
    have hzs := x.size
    have h10 := hcl.off hL 40 10 (by kernel_rfl)
    simp only [h10, cond_false] at hs
    have hcc := (hs.get 0 rfl).cell 2 (v := (.slice (some ⟨gt, 0, none⟩) cs.length ct)) rfl
    have hlt := (hs.get 0 rfl).lt
    go_wp2
    exact aft_same x rfl hs (by first | (simp [upd, h10]; done) | (simp [upd, updv, h10, hL]; rfl))
  rw [u1]
  go_simp
  with_reducible refine hK _ ?_
  clear hK K
  refine lx_next 2 (by rfl) (by decide) ?_
  dsimp only [List.take, List.drop]
  repeat (go_big_quiet_step (fail))
  refine wpQuiet_nil ?_
  refine lx_loud (by rfl) (by kernel_rfl) ?_ (fun K hK => ?_)
  · intro L w3 hL hd hcl hC hs
    obtain ⟨x, rfl⟩ := hC
    have hzs := x.size
    have h10 := hcl.off hL 40 10 (by kernel_rfl)
    simp only [h10, cond_false] at hs
    have hcc := own_int_at (hs.get 2 rfl) hpd
    rw [HDP.out] at hcc
    have hlt := lt_of_cell hcc
    simp only at hlt
    go_wp2
    exact aft_same x rfl hs (by first | (simp [upd, h10]; done) | (simp [upd, updv, h10, hL]; rfl))
  rw [u4]
  go_simp
  with_reducible refine hK _ ?_
  clear hK K
  refine lx_next 1 (by rfl) (by decide) ?_
  dsimp only [List.take, List.drop]
  repeat (go_big_quiet_step (fail))
  refine wpQuiet_nil ?_
  refine lx_loud (by rfl) (by kernel_rfl) ?_ (fun K hK => ?_)
  · intro L w3 hL hd hcl hC hs
    obtain ⟨x, rfl⟩ := hC
    have hzs := x.size
    have h10 := hcl.off hL 40 10 (by kernel_rfl)
    simp only [h10, cond_false] at hs
    have hcc := (hs.get 8 rfl).cell 1 (v := (Value.slice nb bs.length nc)) rfl
    have hlt := (hs.get 8 rfl).lt
    go_wp2
    exact aft_same x rfl hs (by first | (simp [upd, h10]; done) | (simp [upd, updv, h10, hL]; rfl))
  rw [u6]
  go_simp
  with_reducible refine hK _ ?_
  clear hK K
  refine lx_next 3 (by rfl) (by decide) ?_
  dsimp only [List.take, List.drop]
  repeat (go_big_quiet_step (fail))
  refine wpQuiet_nil ?_
  refine lx_loud (by rfl) (by kernel_rfl) ?_ (fun K hK => ?_)
  · intro L w3 hL hd hcl hC hs
    obtain ⟨x, rfl⟩ := hC
    have hzs := x.size
    simp only [hL, cond_false] at hs
    have hcc := own_int_at (hs.get 2 rfl) hpd
    have hfz := World.ownsRow.frozenAt (hs.get 2 rfl) p
    have hlt := lt_of_cell hcc
    simp only at hlt
    go_wp2
    exact aft_cell x hlo trivial hs 2 rfl rfl (by first | (simp [upd, hL]; done) | (simp [upd, updv, hL]; rfl))
  go_simp
  with_reducible refine hK _ ?_
  clear hK K
  refine lx_nil ?_
  intro x hs
  have hs2 : Frm B [Res.blk k4 #[.slice a10 (l.length + 1) c10, (.slice (some ⟨gl, 0, none⟩) cs.length cl), (.slice (some ⟨gt, 0, none⟩) cs.length ct), (.slice (some ⟨gi, 0, none⟩) cs.length ci), ev, av, .int .i64 gr, .bool false], Res.own B 3 1 (.slice (some ⟨gl, 0, none⟩) cs.length cl) cs.length ((xl.set p yl).map (Value.int .i64)), Res.own B 3 1 (.slice (some ⟨gt, 0, none⟩) cs.length ct) cs.length ((xd.set p (dp + bs.length)).map (Value.int .i64)), Res.own B 4 1 (.slice (some ⟨gi, 0, none⟩) cs.length ci) cs.length ((xi.set p yi).map Value.bool), Res.own B 3 1 ev E.length (E.map (Value.int .i64)), Res.own B 3 1 av A.length (A.map (Value.int .i64)), Res.vis B (.slice a10 (l.length + 1) c10) (l ++ [(⟨p, bs⟩ : LV)]) (us ++ [(Value.slice nb bs.length nc)]), Res.blk k17 #[.int .i64 cst, .int .i64 cgi, .int .i64 cgo], Res.blk k18 #[.int .i64 p, (Value.slice nb bs.length nc)]] x.world := by
    rw [List.map_set (l := xd)]
    exact hs
  have HS7 := Lib.hid hs2
  have HX7 := Lib.hid (Chg.to_ext HX6.out x.chg (by rintro i ⟨_, h⟩; have h : B ≤ i := h; omega))
  clear hs hs2 hT hne u1 u4 u6 hlo hl4 hgt0 hgt1 HS6 HX6 hsz6
  generalize x.world = w7 at *
  clear x
  have hsz7 := HX7.out.size
  have hlo : B ≤ w7.heap.size := by omega
  have hb4 : Blk w7 k4 #[.slice a10 (l.length + 1) c10, (.slice (some ⟨gl, 0, none⟩) cs.length cl), (.slice (some ⟨gt, 0, none⟩) cs.length ct), (.slice (some ⟨gi, 0, none⟩) cs.length ci), ev, av, .int .i64 gr, .bool false] := HS7.out.get 0 rfl
  have d6 := hb4.cell 6 (v := .int .i64 gr) rfl
  have f6 := hb4.frozen 6
  have hl4 := hb4.lt
  have hk40 := (HS7.out.lt 0 rfl k4 rfl).1
  obtain ⟨b, hb⟩ : ∃ b, ((v : Int) % (cs.length : Int) == (cs.length : Int) - 1) = b := ⟨_, rfl⟩
  have hbn : (v % cs.length == cs.length - 1) = b := by
    rw [← hb, Bool.eq_iff_iff, beq_iff_eq, beq_iff_eq]
    omega
  have hrn : rndN gr v cs.length = if b = true then gr + 1 else gr := by
    unfold rndN
    rw [← hbn]
    simp
  have HBN := Lib.hid hbn
  have HRN0 := Lib.hid hrn
  clear hbn hrn hb4
  go_upto_if 199 with fail
  go_cut [] (fun wx => Frm B [Res.blk k4 #[.slice a10 (l.length + 1) c10, (.slice (some ⟨gl, 0, none⟩) cs.length cl), (.slice (some ⟨gt, 0, none⟩) cs.length ct), (.slice (some ⟨gi, 0, none⟩) cs.length ci), ev, av, .int .i64 (rndN gr v cs.length), .bool false], Res.own B 3 1 (.slice (some ⟨gl, 0, none⟩) cs.length cl) cs.length ((xl.set p yl).map (Value.int .i64)), Res.own B 3 1 (.slice (some ⟨gt, 0, none⟩) cs.length ct) cs.length ((xd.set p (dp + bs.length)).map (Value.int .i64)), Res.own B 4 1 (.slice (some ⟨gi, 0, none⟩) cs.length ci) cs.length ((xi.set p yi).map Value.bool), Res.own B 3 1 ev E.length (E.map (Value.int .i64)), Res.own B 3 1 av A.length (A.map (Value.int .i64)), Res.vis B (.slice a10 (l.length + 1) c10) (l ++ [(⟨p, bs⟩ : LV)]) (us ++ [(Value.slice nb bs.length nc)]), Res.blk k17 #[.int .i64 cst, .int .i64 cgi, .int .i64 cgo], Res.blk k18 #[.int .i64 p, (Value.slice nb bs.length nc)]] wx ∧ Ext w2 wx)
  case first =>
    cases b
    · go_wp2
      go_meet
      rw [show rndN gr v cs.length = gr by have := HRN0.out; simpa using this]
      exact ⟨HS7.out, HX7.out⟩
    · go_wp2
      go_meet
      rw [show rndN gr v cs.length = gr + 1 by have := HRN0.out; simpa using this]
      exact ⟨HS7.out.store (j := 6) 0 rfl (.int .i64 (gr + 1)) hlo, HX7.out.setCell (p := ⟨k4, 6, none⟩) (by show _ ≤ k4; omega) _⟩
  case rest =>
    obtain ⟨hs8, hx8⟩ := hcut
    obtain ⟨rd, hrd⟩ : ∃ rd, rndN gr v cs.length = rd := ⟨_, rfl⟩
    rw [hrd] at hs8
    have HRN := Lib.hid hrd
    have HS8 := Lib.hid hs8
    have HX8 := Lib.hid hx8
    have hb4 : Blk wc k4 #[.slice a10 (l.length + 1) c10, (.slice (some ⟨gl, 0, none⟩) cs.length cl), (.slice (some ⟨gt, 0, none⟩) cs.length ct), (.slice (some ⟨gi, 0, none⟩) cs.length ci), ev, av, .int .i64 rd, .bool false] := hs8.get 0 rfl
    obtain ⟨ea, ec, rfl⟩ := own_shape (hs8.get 4 rfl)
    have d4 := hb4.cell 4 (v := .slice ea E.length ec) rfl
    have d6 := hb4.cell 6 (v := .int .i64 rd) rfl
    have d7 := hb4.cell 7 (v := .bool false) rfl
    have f7 := hb4.frozen 7
    have hl4 := hb4.lt
    have hbK := HK.out.ext hx8
    have c2 := hbK.cell 2 (v := .int .i64 ro) rfl
    have c3 := hbK.cell 3 (v := .bool eq) rfl
    have hKl := hbK.lt
    have hsz8 := hx8.size
    have hlo : B ≤ wc.heap.size := by omega
    clear hs8 hx8 hrd hb4 hbK HS7 HX7 d6
    have d6 : wc.cell? ⟨k4, 6, none⟩ = some (.int .i64 rd) := (HS8.out.get 0 rfl : Blk wc k4 _).cell 6 rfl
    by_cases hE0 : 0 < E.length
    · cases eq
      · have hv := HS8.out.store (j := 7) 0 rfl (.bool true) hlo
        have he := HX8.out.setCell (p := ⟨k4, 7, none⟩) (by show _ ≤ k4; omega) (.bool true)
        have ho : ovrN false E.length v cs.length (rndN gr v cs.length) ro = true := by rw [HRN.out]; simp [ovrN, hE0]
        have HHv := Lib.hid hv
        have HHe := Lib.hid he
        have HHo := Lib.hid ho
        clear hv he ho
        go_wp2
        refine HQ.out (.slice a10 (l.length + 1) c10) (us ++ [(Value.slice nb bs.length nc)]) _ ?_ HHe.out
        rw [HHo.out, HRN.out]
        exact HHv.out.left (rs' := [_, _])
      · cases b
        · have hv := HS8.out.store (j := 7) 0 rfl (.bool false) hlo
          have he := HX8.out.setCell (p := ⟨k4, 7, none⟩) (by show _ ≤ k4; omega) (.bool false)
          have ho : ovrN true E.length v cs.length (rndN gr v cs.length) ro = false := by rw [HRN.out]; simp [ovrN, HBN.out]
          have HHv := Lib.hid hv
          have HHe := Lib.hid he
          have HHo := Lib.hid ho
          clear hv he ho
          go_wp2
          refine HQ.out (.slice a10 (l.length + 1) c10) (us ++ [(Value.slice nb bs.length nc)]) _ ?_ HHe.out
          rw [HHo.out, HRN.out]
          exact HHv.out.left (rs' := [_, _])
        · have hv := HS8.out.store (j := 7) 0 rfl (.bool true) hlo
          have he := HX8.out.setCell (p := ⟨k4, 7, none⟩) (by show _ ≤ k4; omega) (.bool true)
          have ho : ovrN true E.length v cs.length (rndN gr v cs.length) ro = true := by rw [HRN.out]; simp [ovrN, hE0, HBN.out]
          have HHv := Lib.hid hv
          have HHe := Lib.hid he
          have HHo := Lib.hid ho
          clear hv he ho
          go_wp2
          refine HQ.out (.slice a10 (l.length + 1) c10) (us ++ [(Value.slice nb bs.length nc)]) _ ?_ HHe.out
          rw [HHo.out, HRN.out]
          exact HHv.out.left (rs' := [_, _])
    · cases b
      · have hv := HS8.out.store (j := 7) 0 rfl (.bool false) hlo
        have he := HX8.out.setCell (p := ⟨k4, 7, none⟩) (by show _ ≤ k4; omega) (.bool false)
        have ho : ovrN eq E.length v cs.length (rndN gr v cs.length) ro = false := by rw [HRN.out]; simp [ovrN, hE0, HBN.out]
        have HHv := Lib.hid hv
        have HHe := Lib.hid he
        have HHo := Lib.hid ho
        clear hv he ho
        go_wp2
        refine HQ.out (.slice a10 (l.length + 1) c10) (us ++ [(Value.slice nb bs.length nc)]) _ ?_ HHe.out
        rw [HHo.out, HRN.out]
        exact HHv.out.left (rs' := [_, _])
      · cases hro : (rd == ro)
        · have hv := HS8.out.store (j := 7) 0 rfl (.bool false) hlo
          have he := HX8.out.setCell (p := ⟨k4, 7, none⟩) (by show _ ≤ k4; omega) (.bool false)
          have ho : ovrN eq E.length v cs.length (rndN gr v cs.length) ro = false := by rw [HRN.out]; simp [ovrN, hE0, HBN.out, hro]
          have HHv := Lib.hid hv
          have HHe := Lib.hid he
          have HHo := Lib.hid ho
          clear hv he ho
          go_wp2
          refine HQ.out (.slice a10 (l.length + 1) c10) (us ++ [(Value.slice nb bs.length nc)]) _ ?_ HHe.out
          rw [HHo.out, HRN.out]
          exact HHv.out.left (rs' := [_, _])
        · have hv := HS8.out.store (j := 7) 0 rfl (.bool true) hlo
          have he := HX8.out.setCell (p := ⟨k4, 7, none⟩) (by show _ ≤ k4; omega) (.bool true)
          have ho : ovrN eq E.length v cs.length (rndN gr v cs.length) ro = true := by rw [HRN.out]; simp [ovrN, hE0, HBN.out, hro]
          have HHv := Lib.hid hv
          have HHe := Lib.hid he
          have HHo := Lib.hid ho
          clear hv he ho
          go_wp2
          refine HQ.out (.slice a10 (l.length + 1) c10) (us ++ [(Value.slice nb bs.length nc)]) _ ?_ HHe.out
          rw [HHo.out, HRN.out]
          exact HHv.out.left (rs' := [_, _])
end Go.Proofs.Ytocnglplhnhllaa
