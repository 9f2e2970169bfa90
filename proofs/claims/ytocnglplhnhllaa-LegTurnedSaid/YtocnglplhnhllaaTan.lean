/-
  Chapter 3: Hand.tale, the darts of a visit.
-/
import Derived.Test.YtocnglplhnhllaaTak
namespace Go.Proofs.Ytocnglplhnhllaa
open Go.RowKit Go.BigFrame
attribute [local go_sem] Later.cell Later.frozen Lat.cell Lat.frozen
set_option maxRecDepth 100000 in
set_option maxHeartbeats 16000000 in
theorem tale_inner (c : Code) (hc : codeBlk 4 (Try.f34.body.getD .skip) = some c) (H : Hnd) (sa ba : Option Addr) (sc bc W1 B k4 k17 k18 gl cl gt ct gi ci m v p : Nat) (cs : List Cnt) (cst cgi cgo lp : Int) (ip : Bool) (vv ev av : Value) (gr : Int) (xl xd E A : List Int) (xi : List Bool) (l : List LV) (us : List Value) (w2 w5 : World)
    (HBd : Hid (∀ i : Nat, i ≤ 1000000 → ∀ W, Ext w2 W → Calls Try.prog 61 #[.agg #[.slice sa H.starts.length sc, .int .u8 H.gates, .bool H.equal, .int .u8 H.rounds, .int .u8 H.first, .slice ba H.beds.length bc], .int .i64 i] W fun e w' => ∃ b, e = .returned (.int .i64 b) ∧ validB b = true ∧ Ext W w'))
    (HB1 : Hid (Blk w2 W1 #[.slice sa H.starts.length sc, .int .u8 H.gates, .bool H.equal, .int .u8 H.rounds, .int .u8 H.first, .slice ba H.beds.length bc])) (hbe : B ≤ w2.heap.size) (hbe2 : w2.heap.size ≤ B) (hW1 : W1 < w2.heap.size) (HLB : Hid (0 ≤ lp ∧ lp ≤ 1001)) (HGIb : Hid (0 ≤ cgi ∧ cgi ≤ 2)) (HGOb : Hid (0 ≤ cgo ∧ cgo ≤ 2))
    (hpl : p < xl.length) (hpi : p < xi.length) (hpn : p < cs.length) (_hn5 : cs.length ≤ 5) (HLP : Hid (xl[p] = lp)) (HIP : Hid (xi[p] = ip)) (hm : m ≤ 1000) (hv60 : v < 60) (hE : E.length ≤ 1000) (hA : A.length ≤ 1000)
    (HS5 : Hid (Frm B [Res.blk k4 #[vv, (.slice (some ⟨gl, 0, none⟩) cs.length cl), (.slice (some ⟨gt, 0, none⟩) cs.length ct), (.slice (some ⟨gi, 0, none⟩) cs.length ci), ev, av, .int .i64 gr, .bool false], Res.own B 3 1 ((.slice (some ⟨gl, 0, none⟩) cs.length cl)) cs.length (xl.map (Value.int .i64)), Res.own B 3 1 ((.slice (some ⟨gt, 0, none⟩) cs.length ct)) cs.length (xd.map (Value.int .i64)), Res.own B 4 1 ((.slice (some ⟨gi, 0, none⟩) cs.length ci)) cs.length (xi.map Value.bool), Res.own B 3 1 (ev) (E : List Int).length ((E : List Int).map (Value.int .i64)), Res.own B 3 1 (av) (A : List Int).length ((A : List Int).map (Value.int .i64)), Res.vis B (vv) l us, Res.blk k17 #[.int .i64 cst, .int .i64 cgi, .int .i64 cgo], Res.blk k18 #[.int .i64 p, .slice none 0 0], Res.own B 34 1 (.slice none 0 0) 0 []] w5)) (HX5 : Hid (Ext w2 w5)) {s0 s2 s3 s5 s7 s15 s16 s17 s18 s19 s20 s21 s22 s23 s24 s25 s26 s27 s28 s29 s30 s31 s32 s33 s34 s35 s36 s37 s38 s39 s40 s41 s42 s43 s44 s45 s46 s47 s48 s49 s50 s51 s52 s53 s54 s55 s56 s57 s58 s59 s60 s61 s62 s63 s64 s65 s66 s67 s68 s69 s70 s71 s72 s73 s74 s75 s76 s77 s78 s79 s80 s81 s82 s83 s84 s85 s86 s87 s88 s89 s90 s91 s92 s93 s94 s95 s96 s97 s98 s99 s100 s101 s102 s103 s104 s105 s106 s107 s108 s109 s110 s111 s112 s113 s114 s115 s116 s117 s118 s119 s120 s121 s122 s123 s124 s125 s126 s127 s128 s129 s130 s131 s132 s133 s134 s135 s136 s137 s138 s139 s140 s141 s142 s143 s144 s145 s146 s147 s148 s149 s150 s151 s152 s153 s154 s155 s156 s157 s158 s159 s160 s161 s162 s163 s164 s165 s166 s167 s168 s169 s170 s171 s172 s173 s174 s175 s176 s177 s178 s179 s180 s181 s182 s183 s184 s185 s186 s187 s188 s189 s190 s191 s192 s193 s194 s195 s196 s197 s198 s199 s200 s201 s202 s203 s204 s205 s206 s207 s208 s209 s210 s211 s212 s213 s214 s215 s216 s217 s218 s219 s220 s221 s222 s223 s224 s225 s226 s227 s228 s229 s230 s231 s232 s233 s234 s235 s236 s237 : Value} (Q : Exit → Act → World → Prop)
    (hQ : ∀ ⦃r14 r15 r91 r92 r93 r94 r95 r96 r97 r98 r99 r100 r101 r102 r103 r104 r105 r106 r107 r108 r109 r110 r111 r112 r113 r114 r115 r116 r117 r118 r119 r120 r121 r122 r123 r124 r125 r126 r127 r128 r129 r130 r131 r132 r133 r134 r135 r136 r137 r138 r139 r140 r141 r142 r143 r144 r145 r146 r147 r148 r149 r150 r151 r152 r153 r154 r155 r156 r157 r158 r159 r160 r161 r162 r163 r164 r165 r166 r167 : Value⦄ (m' : Nat) (bs : List Int) (y : Thr) (bv ev' av' : Value) (wx : World), m' ≤ m + 6 → thr cgi cgo ip lp bs = (y, -1, 0) → ((1 ≤ bs.length ∧ bs.length ≤ 3) ∧ ∀ b ∈ bs, validB b = true) → y.darts = (bs.length : Int) →
      Frm B [Res.blk k4 #[vv, (.slice (some ⟨gl, 0, none⟩) cs.length cl), (.slice (some ⟨gt, 0, none⟩) cs.length ct), (.slice (some ⟨gi, 0, none⟩) cs.length ci), ev', av', .int .i64 gr, .bool false], Res.own B 3 1 ((.slice (some ⟨gl, 0, none⟩) cs.length cl)) cs.length (xl.map (Value.int .i64)), Res.own B 3 1 ((.slice (some ⟨gt, 0, none⟩) cs.length ct)) cs.length (xd.map (Value.int .i64)), Res.own B 4 1 ((.slice (some ⟨gi, 0, none⟩) cs.length ci)) cs.length (xi.map Value.bool), Res.own B 3 1 (ev') ((wonA y.won E p) : List Int).length (((wonA y.won E p) : List Int).map (Value.int .i64)), Res.own B 3 1 (av') ((wonA y.won A y.darts) : List Int).length (((wonA y.won A y.darts) : List Int).map (Value.int .i64)), Res.vis B (vv) l us, Res.blk k17 #[.int .i64 cst, .int .i64 cgi, .int .i64 cgo], Res.blk k18 #[.int .i64 p, bv], Res.own B 34 1 (bv) bs.length (bs.map (Value.int .i64))] wx → Ext w2 wx → Q .normal { tmps := #[s0, .pointer (some ⟨W1, 0, none⟩), s2, s3, .pointer (some ⟨k4, 0, none⟩), s5, .int .i64 m', s7, .int .i64 v, .int .i64 p, .pointer (some ⟨k17, 0, none⟩), .int .i64 y.left, .bool y.inn, .pointer (some ⟨k18, 0, none⟩), r14, r15, s16, s17, s18, s19, s20, s21, s22, s23, s24, s25, s26, s27, s28, s29, s30, s31, s32, s33, s34, s35, s36, s37, s38, s39, s40, s41, s42, s43, s44, s45, s46, s47, s48, s49, s50, s51, s52, s53, s54, s55, s56, s57, s58, s59, s60, s61, s62, s63, s64, s65, s66, s67, s68, s69, s70, s71, s72, s73, s74, s75, s76, s77, s78, s79, s80, s81, s82, s83, s84, s85, s86, s87, s88, s89, s90, r91, r92, r93, r94, r95, r96, r97, r98, r99, r100, r101, r102, r103, r104, r105, r106, r107, r108, r109, r110, r111, r112, r113, r114, r115, r116, r117, r118, r119, r120, r121, r122, r123, r124, r125, r126, r127, r128, r129, r130, r131, r132, r133, r134, r135, r136, r137, r138, r139, r140, r141, r142, r143, r144, r145, r146, r147, r148, r149, r150, r151, r152, r153, r154, r155, r156, r157, r158, r159, r160, r161, r162, r163, r164, r165, r166, r167, s168, s169, s170, s171, s172, s173, s174, s175, s176, s177, s178, s179, s180, s181, s182, s183, s184, s185, s186, s187, s188, s189, s190, s191, s192, s193, s194, s195, s196, s197, s198, s199, s200, s201, s202, s203, s204, s205, s206, s207, s208, s209, s210, s211, s212, s213, s214, s215, s216, s217, s218, s219, s220, s221, s222, s223, s224, s225, s226, s227, s228, s229, s230, s231, s232, s233, s234, s235, s236, s237], defers := [] } wx) :
    c.wp Try.prog Q { tmps := #[s0, .pointer (some ⟨W1, 0, none⟩), s2, s3, .pointer (some ⟨k4, 0, none⟩), s5, .int .i64 m, s7, .int .i64 v, .int .i64 p, .pointer (some ⟨k17, 0, none⟩), .int .i64 lp, .bool ip, .pointer (some ⟨k18, 0, none⟩), .int .i64 0, s15, s16, s17, s18, s19, s20, s21, s22, s23, s24, s25, s26, s27, s28, s29, s30, s31, s32, s33, s34, s35, s36, s37, s38, s39, s40, s41, s42, s43, s44, s45, s46, s47, s48, s49, s50, s51, s52, s53, s54, s55, s56, s57, s58, s59, s60, s61, s62, s63, s64, s65, s66, s67, s68, s69, s70, s71, s72, s73, s74, s75, s76, s77, s78, s79, s80, s81, s82, s83, s84, s85, s86, s87, s88, s89, s90, s91, s92, s93, s94, s95, s96, s97, s98, s99, s100, s101, s102, s103, s104, s105, s106, s107, s108, s109, s110, s111, s112, s113, s114, s115, s116, s117, s118, s119, s120, s121, s122, s123, s124, s125, s126, s127, s128, s129, s130, s131, s132, s133, s134, s135, s136, s137, s138, s139, s140, s141, s142, s143, s144, s145, s146, s147, s148, s149, s150, s151, s152, s153, s154, s155, s156, s157, s158, s159, s160, s161, s162, s163, s164, s165, s166, s167, s168, s169, s170, s171, s172, s173, s174, s175, s176, s177, s178, s179, s180, s181, s182, s183, s184, s185, s186, s187, s188, s189, s190, s191, s192, s193, s194, s195, s196, s197, s198, s199, s200, s201, s202, s203, s204, s205, s206, s207, s208, s209, s210, s211, s212, s213, s214, s215, s216, s217, s218, s219, s220, s221, s222, s223, s224, s225, s226, s227, s228, s229, s230, s231, s232, s233, s234, s235, s236, s237], defers := [] } w5 := by
  let Q2 : Exit → Act → World → Prop := bodyPost Try.prog Try.f34 fun _ _ => True
  have HQ := Lib.hid hQ
  clear hQ
  simp only [Try.f34, Option.getD_some, codeBlk, ↓reduceIte, Nat.reduceEqDiff, Option.some.injEq] at hc
  subst hc
  go_wp2_with fail
  go_loopw [6, 11, 12, 14] (fun a xv iv' kk wr => ∃ (k m' : Nat) (bs : List Int) (left : Int) (inn : Bool) (bv : Value), k ≤ 3 ∧ kk = .int .i64 k ∧ a = .int .i64 m' ∧ m' ≤ m + 2 * k ∧ xv = .int .i64 left ∧ iv' = .bool inn ∧ DrtI cgi cgo lp ip bs k left inn ∧ Frm B ([Res.blk k4 #[vv, (.slice (some ⟨gl, 0, none⟩) cs.length cl), (.slice (some ⟨gt, 0, none⟩) cs.length ct), (.slice (some ⟨gi, 0, none⟩) cs.length ci), ev, av, .int .i64 gr, .bool false], Res.own B 3 1 ((.slice (some ⟨gl, 0, none⟩) cs.length cl)) cs.length (xl.map (Value.int .i64)), Res.own B 3 1 ((.slice (some ⟨gt, 0, none⟩) cs.length ct)) cs.length (xd.map (Value.int .i64)), Res.own B 4 1 ((.slice (some ⟨gi, 0, none⟩) cs.length ci)) cs.length (xi.map Value.bool), Res.own B 3 1 (ev) (E : List Int).length ((E : List Int).map (Value.int .i64)), Res.own B 3 1 (av) (A : List Int).length ((A : List Int).map (Value.int .i64)), Res.vis B (vv) l us, Res.blk k17 #[.int .i64 cst, .int .i64 cgi, .int .i64 cgo], Res.blk k18 #[.int .i64 p, bv], Res.own B 34 1 (bv) bs.length (bs.map (Value.int .i64))]) wr ∧ Ext w2 wr) (fun _ _ _ kk _ => 3 - (intOf kk).toNat)
  case atStart => exact ⟨0, m, [], lp, ip, _, Nat.zero_le _, rfl, rfl, by omega, rfl, rfl, DrtI.start HLB.out, HS5.out, HX5.out⟩
  case round =>
    obtain ⟨k, m', bs, left, inn, bv, hk3, rfl, rfl, hm', rfl, rfl, hD, hF, hx⟩ := hrel
    have hF0 := hF.get 9 rfl
    obtain ⟨b9, c9, rfl⟩ := own_shape hF0
    have HD := Lib.hid hD
    have HSr := Lib.hid hF
    have hsz := hx.size
    have hblen := hD.len
    have HBL := Lib.hid hblen
    clear hF0 hF hblen HS5 HX5
    by_cases hlt : k < 3
    · have hbh := HB1.out.ext hx
      have z0 := hbh.cell 0 (v := .slice sa H.starts.length sc) rfl
      have z1 := hbh.cell 1 (v := .int .u8 H.gates) rfl
      have z2 := hbh.cell 2 (v := .bool H.equal) rfl
      have z3 := hbh.cell 3 (v := .int .u8 H.rounds) rfl
      have z4 := hbh.cell 4 (v := .int .u8 H.first) rfl
      have z5 := hbh.cell 5 (v := .slice ba H.beds.length bc) rfl
      have hwl : W1 < wr.heap.size := by omega
      clear hbh hD
      go_wp2_with fail
      refine (HBd.out m' (by omega) _ (by exact hx)).mono ?_
      rintro e w6 ⟨bd, rfl, hvb, hx6⟩
      have hE6 := hx.trans hx6
      have hs6 := HSr.out.ext hx6
      have hsz6 := hE6.size
      have hs7 := hs6.made (base := B) (size := 1) (m := 1) 34 #[.int .i64 bd] (by omega) (by decide) rfl (by omega)
      have hb18 : Blk w6 k18 #[.int .i64 p, .slice b9 bs.length c9] := hs6.get 8 rfl
      have y1 := hb18.cell 1 (v := .slice b9 bs.length c9) rfl
      have hl18 := hb18.lt
      have hk18 := (hs6.lt 8 rfl k18 rfl).1
      have HS7 := Lib.hid hs7
      have HVB := Lib.hid hvb
      have HE6 := Lib.hid hE6
      clear hs6 hs7 hb18 z0 z1 z2 z3 z4 z5 hwl HSr hx hx6 hE6 hvb hsz
      go_wp2_with (at_builtin; refine wp_append_sep rfl _ _ 27 34 _ 1 _ rfl info_bed (by kernel_rfl) rfl (by decide) B _ _ _ rfl (HS7.out.get 9 rfl) B w6.heap.size 1 1 _ rfl (HS7.out.get 10 rfl) (fun u hu => by rw [List.mem_singleton.1 hu]; rfl) (by have := HBL.out; omega) (by decide) (by simp; omega) ?_)
      intro v' w7 ho7 hC7 hn7
      obtain ⟨nb, nc, rfl⟩ := own_shape ho7
      have hs8 := HS7.out.set 9 rfl hC7 (r' := Res.own B 34 1 (.slice nb (bs.length + 1) nc) (bs.length + 1) (bs.map (Value.int .i64) ++ [Value.int .i64 bd])) ho7 (fun k hk => by rcases hn7 k hk with h | h; exact .inl h; exact .inr (by simpa using h)) (by simp; omega)
      have hs9 : Frm B ([Res.blk k4 #[vv, (.slice (some ⟨gl, 0, none⟩) cs.length cl), (.slice (some ⟨gt, 0, none⟩) cs.length ct), (.slice (some ⟨gi, 0, none⟩) cs.length ci), ev, av, .int .i64 gr, .bool false], Res.own B 3 1 ((.slice (some ⟨gl, 0, none⟩) cs.length cl)) cs.length (xl.map (Value.int .i64)), Res.own B 3 1 ((.slice (some ⟨gt, 0, none⟩) cs.length ct)) cs.length (xd.map (Value.int .i64)), Res.own B 4 1 ((.slice (some ⟨gi, 0, none⟩) cs.length ci)) cs.length (xi.map Value.bool), Res.own B 3 1 (ev) (E : List Int).length ((E : List Int).map (Value.int .i64)), Res.own B 3 1 (av) (A : List Int).length ((A : List Int).map (Value.int .i64)), Res.vis B (vv) l us, Res.blk k17 #[.int .i64 cst, .int .i64 cgi, .int .i64 cgo], Res.blk k18 #[.int .i64 p, .slice b9 bs.length c9], Res.own B 34 1 (.slice nb (bs.length + 1) nc) (bs.length + 1) (bs.map (Value.int .i64) ++ [Value.int .i64 bd])]) w7 := hs8.left (rs' := [_])
      have hE7 : Ext w2 w7 := Chg.to_ext (HE6.out.alloc _) hC7 (fun i hi => by have := (HS7.out.lt 9 rfl i hi).1; omega)
      have hb18 : Blk w7 k18 #[.int .i64 p, .slice b9 bs.length c9] := hs9.get 8 rfl
      have y1 := hb18.cell 1 (v := .slice b9 bs.length c9) rfl
      have hl18 := hb18.lt
      have f1 := hb18.frozen 1
      have hsz7 := hE7.size
      have HS9 := Lib.hid hs9
      have HE7 := Lib.hid hE7
      clear ho7 hC7 hn7 hs8 hs9 hE7 hb18 HS7 HE6
      go_upto_region 17 with fail
      generalize hW8 : World.setCell w7 _ _ = w8
      have hs10 := HS9.out.store (j := 1) 8 rfl (.slice nb (bs.length + 1) nc) (by omega)
      have hE8 := HE7.out.setCell (p := ⟨k18, 1, none⟩) (by show _ ≤ k18; omega) (.slice nb (bs.length + 1) nc)
      rw [hW8] at hs10 hE8
      have hs11 : Frm B ([Res.blk k4 #[vv, (.slice (some ⟨gl, 0, none⟩) cs.length cl), (.slice (some ⟨gt, 0, none⟩) cs.length ct), (.slice (some ⟨gi, 0, none⟩) cs.length ci), ev, av, .int .i64 gr, .bool false], Res.own B 3 1 ((.slice (some ⟨gl, 0, none⟩) cs.length cl)) cs.length (xl.map (Value.int .i64)), Res.own B 3 1 ((.slice (some ⟨gt, 0, none⟩) cs.length ct)) cs.length (xd.map (Value.int .i64)), Res.own B 4 1 ((.slice (some ⟨gi, 0, none⟩) cs.length ci)) cs.length (xi.map Value.bool), Res.own B 3 1 (ev) (E : List Int).length ((E : List Int).map (Value.int .i64)), Res.own B 3 1 (av) (A : List Int).length ((A : List Int).map (Value.int .i64)), Res.vis B (vv) l us, Res.blk k17 #[.int .i64 cst, .int .i64 cgi, .int .i64 cgo], Res.blk k18 #[.int .i64 p, .slice nb (bs ++ [bd]).length nc], Res.own B 34 1 (.slice nb (bs ++ [bd]).length nc) (bs ++ [bd]).length ((bs ++ [bd]).map (Value.int .i64))]) w8 := by rw [List.length_append, List.map_append]; exact hs10
      have hb17 : Blk w8 k17 #[.int .i64 cst, .int .i64 cgi, .int .i64 cgo] := hs11.get 7 rfl
      have e1 := hb17.cell 1 (v := .int .i64 cgi) rfl
      have hl17 := hb17.lt
      have HS11 := Lib.hid hs11
      have HE8 := Lib.hid hE8
      clear hW8 hs10 hE8 hs11 hb17 HS9 HE7 y1 f1 hl18 hsz6 hsz7
      go_cut [121] (fun c wx => c = .bool (skipB cgi inn bd) ∧ Ext w8 wx)
      case first =>
        cases hb0 : (bd == 0)
        · cases inn
          · go_wp2_with fail
            refine (law_opens cgi bd HGIb.out HVB.out _).mono ?_
            rintro e w9 ⟨rfl, hx9⟩
            go_wp2
            go_meet
            exact ⟨by simp [skipB, hb0], hx9⟩
          · go_wp2
            go_meet
            exact ⟨by simp [skipB, hb0], Ext.refl _⟩
        · go_wp2
          go_meet
          exact ⟨by simp [skipB, hb0], Ext.refl _⟩
      case rest =>
        obtain ⟨rfl, hx9⟩ := hcut
        obtain ⟨w9, rfl⟩ : ∃ x, x = wc := ⟨_, rfl⟩
        have hs12 := HS11.out.ext hx9
        have HE9 := Lib.hid (HE8.out.trans hx9)
        have HS12 := Lib.hid hs12
        clear hx9 hs12 e1 hl17 HS11 HE8
        cases hsk : skipB cgi inn bd
        · have HSK := Lib.hid hsk
          clear hsk
          have hwb := wrt_bounds_valid HVB.out
          have hlb := HD.out.lb
          have hb17 : Blk w9 k17 #[.int .i64 cst, .int .i64 cgi, .int .i64 cgo] := HS12.out.get 7 rfl
          have e2 := hb17.cell 2 (v := .int .i64 cgo) rfl
          have hl17 := hb17.lt
          clear hb17
          go_wp2_with fail
          refine (law_worth bd HVB.out _).mono ?_
          rintro e w10 ⟨rfl, hx10⟩
          have HS13 := Lib.hid (HS12.out.ext hx10)
          have HE10 := Lib.hid (HE9.out.trans hx10)
          replace e2 := hx10.cell e2
          replace hl17 : k17 < w10.heap.size := by have := hx10.size; omega
          clear hx10 HS12 HE9
          go_upto_region 19 with fail
          go_cut [133] (fun c wx => c = .bool (winB cgo left bd) ∧ Ext w10 wx)
          case first =>
            cases h0 : (left - wrt bd == 0)
            · go_wp2
              go_meet
              exact ⟨by simp [winB, h0], Ext.refl _⟩
            · go_wp2_with fail
              refine (law_opens cgo bd HGOb.out HVB.out _).mono ?_
              rintro e w11 ⟨rfl, hx11⟩
              go_wp2
              go_meet
              exact ⟨by simp [winB, h0], hx11⟩
          case rest =>
            obtain ⟨rfl, hx11⟩ := hcut
            obtain ⟨w11, rfl⟩ : ∃ x, x = wc := ⟨_, rfl⟩
            have hs14 := HS13.out.ext hx11
            have HE11 := Lib.hid (HE10.out.trans hx11)
            have HS14 := Lib.hid hs14
            replace e2 := hx11.cell e2
            replace hl17 : k17 < w11.heap.size := by have := hx11.size; omega
            clear hx11 hs14 HS13 HE10
            cases hwi : winB cgo left bd
            · have HWI := Lib.hid hwi
              clear hwi
              go_upto_region 21 with fail
              go_cut [157] (fun c wx => c = .bool (bustB cgo left bd) ∧ wx = w11)
              case first =>
                cases q1 : decide (left - wrt bd < 2)
                · go_wp2
                  go_meet
                  exact ⟨by simp [bustB, q1], rfl⟩
                · cases q2 : decide (left - wrt bd < 1)
                  · cases q3 : (cgo == 0)
                    · have q4 : (cgo != 0) = true := by simp [bne, q3]
                      go_wp2
                      go_meet
                      exact ⟨by simp [bustB, q1, q2, q4], rfl⟩
                    · have q4 : (cgo != 0) = false := by simp [bne, q3]
                      go_wp2
                      go_meet
                      exact ⟨by simp [bustB, q1, q2, q4], rfl⟩
                  · go_wp2
                    go_meet
                    exact ⟨by simp [bustB, q1, q2], rfl⟩
              case rest =>
                obtain ⟨rfl, rfl⟩ := hcut
                cases hbu : bustB cgo left bd
                · have hD2 := HD.out.on hlt HVB.out HSK.out HWI.out hbu
                  have HD2 := Lib.hid hD2
                  clear hbu hD2
                  go_wp2
                  go_roundw
                  case rel => exact ⟨k + 1, m' + 1 + v % 2, _, _, true, _, by omega, by go_num, by go_num, by omega, rfl, rfl, HD2.out, HS14.out, HE11.out⟩
                  case measure => simp [intOf]; omega
                · have hT2 := HD.out.bust hlt HVB.out HSK.out HWI.out hbu
                  have HT2 := Lib.hid hT2
                  have hb4 : Blk wc k4 #[vv, .slice (some ⟨gl, 0, none⟩) cs.length cl, .slice (some ⟨gt, 0, none⟩) cs.length ct, .slice (some ⟨gi, 0, none⟩) cs.length ci, ev, av, .int .i64 gr, .bool false] := HS14.out.get 0 rfl
                  have d1 := hb4.cell 1 (v := .slice (some ⟨gl, 0, none⟩) cs.length cl) rfl
                  have d3 := hb4.cell 3 (v := .slice (some ⟨gi, 0, none⟩) cs.length ci) rfl
                  have sl := own_int_at (HS14.out.get 1 rfl) hpl
                  have si := own_bool_at (HS14.out.get 3 rfl) hpi
                  rw [HLP.out] at sl
                  rw [HIP.out] at si
                  have hk4c := hb4.lt
                  have hglc := lt_of_cell sl
                  have hgic := lt_of_cell si
                  simp only at hglc hgic
                  have hbv := HD.out.val HVB.out
                  have HBV := Lib.hid hbv
                  clear hbu hT2 hb4 hbv
                  go_wp2
                  go_quiet (fail)
                  go_wp2
                  exact HQ.out (m' + 1 + v % 2) (bs ++ [bd]) ⟨lp, 0, (k : Int) + 1, ip, true, false⟩ _ ev av _ (by omega) HT2.out ⟨by rw [List.length_append, HBL.out, List.length_singleton]; omega, HBV.out⟩ (by rw [List.length_append, HBL.out, List.length_singleton]; simp) (HS14.out.ext ((Ext.refl _).drewN _)) (HE11.out.drewN _)
            · have hT2 := HD.out.win hlt HVB.out HSK.out hwi
              have HT2 := Lib.hid hT2
              obtain ⟨ea, ec, rfl⟩ := own_shape (HS14.out.get 4 rfl)
              obtain ⟨aa, ac, rfl⟩ := own_shape (HS14.out.get 5 rfl)
              have hbv := HD.out.val HVB.out
              have HBV := Lib.hid hbv
              have hsz11 := HE11.out.size
              have hlo : B ≤ w11.heap.size := by omega
              have hl4 := (HS14.out.get 0 rfl : Blk w11 k4 _).lt
              clear hwi hT2 hbv e2 hl17
              go_upto_region 20 with fail
              refine wp_region_sep (by kernel_rfl) [.no, .val (.slice ea E.length ec), .no, .box 1, .app (E.length + 1), .no, .val (.slice aa A.length ac), .no, .no, .box 1, .app (A.length + 1), .no, .any, .no, .any] B
                (fun L u => [Res.blk k4 #[vv, (.slice (some ⟨gl, 0, none⟩) cs.length cl), (.slice (some ⟨gt, 0, none⟩) cs.length ct), (.slice (some ⟨gi, 0, none⟩) cs.length ci), (bif L 12 then u 4 else .slice ea E.length ec), (bif L 14 then u 10 else .slice aa A.length ac), .int .i64 gr, .bool false],
                  Res.own B 3 1 (.slice (some ⟨gl, 0, none⟩) cs.length cl) cs.length (xl.map (Value.int .i64)), Res.own B 3 1 (.slice (some ⟨gt, 0, none⟩) cs.length ct) cs.length (xd.map (Value.int .i64)), Res.own B 4 1 (.slice (some ⟨gi, 0, none⟩) cs.length ci) cs.length (xi.map Value.bool),
                  (bif L 4 then Res.own B 3 1 (u 4) (E.length + 1) (E.map (Value.int .i64) ++ [.int .i64 p]) else Res.own B 3 1 (.slice ea E.length ec) E.length (E.map (Value.int .i64))),
                  (bif L 10 then Res.own B 3 1 (u 10) (A.length + 1) (A.map (Value.int .i64) ++ [.int .i64 ((k : Int) + 1)]) else Res.own B 3 1 (.slice aa A.length ac) A.length (A.map (Value.int .i64))),
                  Res.vis B vv l us, Res.blk k17 #[.int .i64 cst, .int .i64 cgi, .int .i64 cgo], Res.blk k18 #[.int .i64 p, .slice nb (bs ++ [bd]).length nc], Res.own B 34 1 (.slice nb (bs ++ [bd]).length nc) (bs ++ [bd]).length ((bs ++ [bd]).map (Value.int .i64)),
                  (bif L 3 then Res.own B 3 1 (u 3) 1 [.int .i64 p] else Res.none), (bif L 9 then Res.own B 3 1 (u 9) 1 [.int .i64 ((k : Int) + 1)] else Res.none)])
                (by kernel_rfl) (Nat.le_of_ble_eq_true rfl) (fun L L' u hh => by simp only [hh 12 rfl, hh 14 rfl, hh 4 rfl, hh 10 rfl, hh 3 rfl, hh 9 rfl]) (fun _ => (HS14.out.more (r := Res.none) trivial fun _ h => h).more (r := Res.none) trivial fun _ h => h) ?_
              intro T hT hne u hu
              have u1 : u 1 = .slice ea E.length ec := hu 1 rfl
              have u6 : u 6 = .slice aa A.length ac := hu 6 rfl
              obtain ⟨k3, u3⟩ : ∃ k, u 3 = .slice (some ⟨k, 0, none⟩) 1 1 := hu 3 rfl
              obtain ⟨k9, u9⟩ : ∃ k, u 9 = .slice (some ⟨k, 0, none⟩) 1 1 := hu 9 rfl
              obtain ⟨a4, c4, u4⟩ : ∃ a c, u 4 = .slice a (E.length + 1) c := hu 4 rfl
              obtain ⟨a10, c10, u10⟩ : ∃ a c, u 10 = .slice a (A.length + 1) c := hu 10 rfl
              clear hu
              refine lx_next 1 (by rfl) (by decide) ?_
              dsimp only [List.take, List.drop]
              repeat (go_big_quiet_step (fail))
              refine wpQuiet_nil ?_
              refine lx_loud (by rfl) (by kernel_rfl) ?_ (fun K hK => ?_)
              · intro L w3 hL hd hcl hC hs
                obtain ⟨x, rfl⟩ := hC
                have hzs := x.size
                have h12 := hcl.off hL 40 12 (by kernel_rfl)
                simp only [h12, cond_false] at hs
                have hcc := (hs.get 0 rfl).cell 4 (v := .slice ea E.length ec) rfl
                have hlt := (hs.get 0 rfl).lt
                go_wp2
                exact aft_same x rfl hs (by first | (simp [upd, updv, h12]; done) | (simp [upd, updv, h12, hL]; rfl))
              rw [u1]
              go_simp
              with_reducible refine hK _ ?_
              clear hK K
              refine lx_next 1 (by rfl) (by decide) ?_
              dsimp only [List.take, List.drop]
              repeat (go_big_quiet_step (fail))
              refine wpQuiet_nil ?_
              refine lx_loud (by rfl) (by kernel_rfl) ?_ (fun K hK => ?_)
              · intro L w3 hL hd hcl hC hs
                obtain ⟨x, rfl⟩ := hC
                have hzs := x.size
                have h4 := hcl.off hL 40 4 (by kernel_rfl)
                simp only [hL, h4, cond_false] at hs
                go_wp2
                exact aft_set x hlo ⟨_, rfl⟩ hs 10 (r' := Res.own B 3 1 (.slice (some ⟨x.world.heap.size, 0, none⟩) 1 1) 1 [.int .i64 p]) rfl (((Ext.refl x.world).alloc _).chg _) (own_box (by omega) (by decide) rfl) (fun k hk => .inr (by rw [← own_blk hk]; simp)) (by first | (simp [upd, updv, h4, hL]; done) | (simp [upd, updv, h4, hL]; rfl))
              rw [u3]
              go_simp
              with_reducible refine hK _ ?_
              clear hK K
              refine lx_loud (by rfl) (by kernel_rfl) ?_ (fun K hK => ?_)
              · intro L w3 hL hd hcl hC hs
                obtain ⟨x, rfl⟩ := hC
                have hzs := x.size
                have h12 := hcl.off hL 40 12 (by kernel_rfl)
                have h3 := hd 3 (by kernel_rfl)
                simp only [hL, h12, h3, cond_true, cond_false] at hs
                rw [u3] at hs
                refine wp_append_sep rfl _ _ 48 3 _ 1 _ rfl info_int (by kernel_rfl) rfl (by decide) B _ _ _ rfl (hs.get 4 rfl) B k3 1 1 _ rfl (hs.get 10 rfl) (fun u hu => by rw [List.mem_singleton.1 hu]; rfl) (by omega) (by decide) (by omega) ?_
                intro v' w4 ho4 hC4 hn4
                obtain ⟨av, ac, rfl⟩ := own_shape ho4
                go_wp2
                exact aft_set x hlo ⟨_, _, rfl⟩ hs 4 rfl hC4 (r' := Res.own B 3 1 (.slice av _ ac) _ _) ho4 hn4 (by first | (simp [upd, updv, h12, h3, hL, u3]; done) | (simp [upd, updv, h12, h3, hL, u3]; rfl))
              rw [u4]
              go_simp
              with_reducible refine hK _ ?_
              clear hK K
              refine lx_next 1 (by rfl) (by decide) ?_
              dsimp only [List.take, List.drop]
              repeat (go_big_quiet_step (fail))
              refine wpQuiet_nil ?_
              refine lx_loud (by rfl) (by kernel_rfl) ?_ (fun K hK => ?_)
              · intro L w3 hL hd hcl hC hs
                obtain ⟨x, rfl⟩ := hC
                have hzs := x.size
                have h14 := hcl.off hL 40 14 (by kernel_rfl)
                simp only [h14, cond_false] at hs
                have hcc := (hs.get 0 rfl).cell 5 (v := .slice aa A.length ac) rfl
                have hlt := (hs.get 0 rfl).lt
                go_wp2
                exact aft_same x rfl hs (by first | (simp [upd, updv, h14]; done) | (simp [upd, updv, h14, hL]; rfl))
              rw [u6]
              go_simp
              with_reducible refine hK _ ?_
              clear hK K
              refine lx_next 2 (by rfl) (by decide) ?_
              dsimp only [List.take, List.drop]
              repeat (go_big_quiet_step (fail))
              refine wpQuiet_nil ?_
              refine lx_loud (by rfl) (by kernel_rfl) ?_ (fun K hK => ?_)
              · intro L w3 hL hd hcl hC hs
                obtain ⟨x, rfl⟩ := hC
                have hzs := x.size
                have h10 := hcl.off hL 40 10 (by kernel_rfl)
                simp only [hL, h10, cond_false] at hs
                go_wp2
                exact aft_set x hlo ⟨_, rfl⟩ hs 11 (r' := Res.own B 3 1 (.slice (some ⟨x.world.heap.size, 0, none⟩) 1 1) 1 [.int .i64 ((k : Int) + 1)]) rfl (((Ext.refl x.world).alloc _).chg _) (own_box (by omega) (by decide) rfl) (fun k hk => .inr (by rw [← own_blk hk]; simp)) (by first | (simp [upd, updv, h10, hL]; done) | (simp [upd, updv, h10, hL]; rfl))
              rw [u9]
              go_simp
              with_reducible refine hK _ ?_
              clear hK K
              refine lx_loud (by rfl) (by kernel_rfl) ?_ (fun K hK => ?_)
              · intro L w3 hL hd hcl hC hs
                obtain ⟨x, rfl⟩ := hC
                have hzs := x.size
                have h14 := hcl.off hL 40 14 (by kernel_rfl)
                have h9 := hd 9 (by kernel_rfl)
                simp only [hL, h14, h9, cond_true, cond_false] at hs
                rw [u9] at hs
                refine wp_append_sep rfl _ _ 48 3 _ 1 _ rfl info_int (by kernel_rfl) rfl (by decide) B _ _ _ rfl (hs.get 5 rfl) B k9 1 1 _ rfl (hs.get 11 rfl) (fun u hu => by rw [List.mem_singleton.1 hu]; rfl) (by omega) (by decide) (by omega) ?_
                intro v' w4 ho4 hC4 hn4
                obtain ⟨av, ac, rfl⟩ := own_shape ho4
                go_wp2
                exact aft_set x hlo ⟨_, _, rfl⟩ hs 5 rfl hC4 (r' := Res.own B 3 1 (.slice av _ ac) _ _) ho4 hn4 (by first | (simp [upd, updv, h14, h9, hL, u9]; done) | (simp [upd, updv, h14, h9, hL, u9]; rfl))
              rw [u10]
              go_simp
              with_reducible refine hK _ ?_
              clear hK K
              refine lx_next 1 (by rfl) (by decide) ?_
              dsimp only [List.take, List.drop]
              repeat (go_big_quiet_step (fail))
              refine wpQuiet_nil ?_
              refine lx_loud (by rfl) (by kernel_rfl) ?_ (fun K hK => ?_)
              · intro L w3 hL hd hcl hC hs
                obtain ⟨x, rfl⟩ := hC
                have hzs := x.size
                have h4 := hd 4 (by kernel_rfl)
                simp only [hL, h4, cond_true, cond_false] at hs
                have f4 := (hs.get 0 rfl).frozen 4
                have hlt := (hs.get 0 rfl).lt
                have hcc := (hs.get 0 rfl).cell 4 rfl
                go_wp2
                exact aft_store x hlo trivial hs 0 rfl (by first | (simp [upd, updv, h4, hL, u4]; done) | (simp [upd, updv, h4, hL, u4]; rfl))
              go_simp
              with_reducible refine hK _ ?_
              clear hK K
              refine lx_next 1 (by rfl) (by decide) ?_
              dsimp only [List.take, List.drop]
              repeat (go_big_quiet_step (fail))
              refine wpQuiet_nil ?_
              refine lx_loud (by rfl) (by kernel_rfl) ?_ (fun K hK => ?_)
              · intro L w3 hL hd hcl hC hs
                obtain ⟨x, rfl⟩ := hC
                have hzs := x.size
                have h10 := hd 10 (by kernel_rfl)
                simp only [hL, h10, cond_true, cond_false] at hs
                have f5 := (hs.get 0 rfl).frozen 5
                have hlt := (hs.get 0 rfl).lt
                have hcc := (hs.get 0 rfl).cell 5 rfl
                go_wp2
                exact aft_store x hlo trivial hs 0 rfl (by first | (simp [upd, updv, h10, hL, u10]; done) | (simp [upd, updv, h10, hL, u10]; rfl))
              go_simp
              with_reducible refine hK _ ?_
              clear hK K
              refine lx_nil ?_
              intro x hs
              rw [u4, u10] at hs
              have hs2 : Frm B ([Res.blk k4 #[vv, (.slice (some ⟨gl, 0, none⟩) cs.length cl), (.slice (some ⟨gt, 0, none⟩) cs.length ct), (.slice (some ⟨gi, 0, none⟩) cs.length ci), .slice a4 (wonA true E p).length c4, .slice a10 (wonA true A ((k : Int) + 1)).length c10, .int .i64 gr, .bool false], Res.own B 3 1 ((.slice (some ⟨gl, 0, none⟩) cs.length cl)) cs.length (xl.map (Value.int .i64)), Res.own B 3 1 ((.slice (some ⟨gt, 0, none⟩) cs.length ct)) cs.length (xd.map (Value.int .i64)), Res.own B 4 1 ((.slice (some ⟨gi, 0, none⟩) cs.length ci)) cs.length (xi.map Value.bool), Res.own B 3 1 (.slice a4 (wonA true E p).length c4) ((wonA true E p) : List Int).length (((wonA true E p) : List Int).map (Value.int .i64)), Res.own B 3 1 (.slice a10 (wonA true A ((k : Int) + 1)).length c10) ((wonA true A ((k : Int) + 1)) : List Int).length (((wonA true A ((k : Int) + 1)) : List Int).map (Value.int .i64)), Res.vis B (vv) l us, Res.blk k17 #[.int .i64 cst, .int .i64 cgi, .int .i64 cgo], Res.blk k18 #[.int .i64 p, .slice nb (bs ++ [bd]).length nc], Res.own B 34 1 (.slice nb (bs ++ [bd]).length nc) (bs ++ [bd]).length ((bs ++ [bd]).map (Value.int .i64))] ++ [Res.own B 3 1 (u 3) 1 [.int .i64 p], Res.own B 3 1 (u 9) 1 [.int .i64 ((k : Int) + 1)]]) x.world := by
                rw [show wonA true E p = E ++ [(p : Int)] from rfl, show wonA true A ((k : Int) + 1) = A ++ [(k : Int) + 1] from rfl, List.length_append, List.length_append, List.map_append, List.map_append]
                exact hs
              have HS2 := Lib.hid (hs2.left)
              have HXX := Lib.hid (Chg.to_ext HE11.out x.chg (by rintro i ⟨_, h⟩; have h : B ≤ i := h; omega))
              clear hs hs2 hT hne u1 u6 u3 u9 u4 u10
              generalize x.world = wx at *
              clear x
              go_wp2
              exact HQ.out (m' + 1 + v % 2) (bs ++ [bd]) ⟨left - wrt bd, lp - (left - wrt bd), (k : Int) + 1, true, false, true⟩ _ _ _ _ (by omega) HT2.out ⟨by rw [List.length_append, HBL.out, List.length_singleton]; omega, HBV.out⟩ (by rw [List.length_append, HBL.out, List.length_singleton]; simp) HS2.out HXX.out
        · have hD2 := HD.out.skip hlt HVB.out hsk
          have HD2 := Lib.hid hD2
          clear hsk hD2
          go_wp2
          go_roundw
          case rel => exact ⟨k + 1, m' + 1 + v % 2, _, left, inn, _, by omega, by go_num, by go_num, by omega, rfl, rfl, HD2.out, HS12.out, HE9.out⟩
          case measure => simp [intOf]; omega
    · obtain rfl : k = 3 := by omega
      have hT2 := HD.out.full
      have hbv := HD.out.valid
      have HT2 := Lib.hid hT2
      have HBV := Lib.hid hbv
      have HXr := Lib.hid hx
      clear hT2 hbv hD hx
      go_wp2
      exact HQ.out m' bs ⟨left, lp - left, 3, inn, false, false⟩ _ ev av _ (by omega) HT2.out ⟨by rw [HBL.out]; omega, HBV.out⟩ (by rw [HBL.out]; rfl) HSr.out HXr.out
end Go.Proofs.Ytocnglplhnhllaa
