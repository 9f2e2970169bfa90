/-
  MeanOrders: the orders of row 1.
-/
import Derived.Test.YtmopadnkjlodnaaNra
namespace Go.Proofs.Ytmopadnkjlodnaa
open Go.RowKit Go.BigFrame
attribute [local go_sem] Later.cell Later.frozen Lat.cell Lat.frozen
set_option maxRecDepth 100000 in
set_option maxHeartbeats 8000000 in
/-- The orders of one row. -/
theorem ord_back1 (c : Code) (hc : codeBlk 8 (Try.f10.body.getD .skip) = some (.block 8 c)) (Q : Exit → Act → World → Prop) (ra rb rc : Ran) (RB SB : Nat) (w W0 : World) (HVA : Hid (RngV ra)) (HVB : Hid (RngV rb)) (HVC : Hid (RngV rc)) {s0 s1 s2 s4 s5 s6 s8 s9 s10 s11 s12 s13 s14 s15 s16 s17 s20 s21 s22 s23 s24 s25 s26 s27 s28 s29 s30 s31 s32 s33 s34 s35 s36 s37 s38 s39 s40 s41 s42 s43 s44 s45 s46 s47 s48 s49 s50 s51 s52 s53 s54 s55 s56 s57 s58 s59 s60 s61 s62 s63 s64 s65 s66 s67 s68 s69 s70 s71 s72 s73 s74 s75 s76 s77 s78 s79 s80 s81 s82 s83 s84 s85 s86 s87 s88 s89 s90 s91 s92 s93 s94 s95 s96 s97 s98 s99 s100 s101 s102 s103 s104 s105 s106 s107 s108 s109 s110 s111 s112 s113 s114 s115 s116 s117 s118 s119 s120 s121 s122 s123 s124 s125 s126 s127 s128 s129 s130 s131 s132 s133 s134 s135 s136 s137 s138 s139 s140 s141 s142 s143 s144 s145 s146 s147 s148 s149 s150 s151 s152 s153 s154 s155 s156 s157 s158 s159 s160 s161 s162 s163 s164 s165 s166 s167 s168 s169 s170 s171 s172 s173 s174 s175 s176 s177 s178 s179 s180 s181 s182 s183 s184 s185 s186 s187 s188 s189 s190 s191 s192 s193 s194 s195 s196 s197 s198 s199 s200 s201 s202 s203 s204 s205 s206 s207 s208 s209 s210 s211 s212 s213 s214 s215 s216 s217 s218 s219 s220 s221 s222 s223 s224 s225 s226 s227 s228 s229 s230 s231 s232 s233 s234 s235 s236 s237 s238 s239 s240 s241 s242 s243 s244 s245 s246 s247 s248 s249 s250 s251 s252 s253 s254 s255 s256 s257 : Value}
    (HS9 : Hid (Blk W0 SB (matC 9 ra rb rc))) (HR : Hid (Blk W0 RB (rngC 3 ra rb rc))) (HX9 : Hid (Ext w W0))
    (hQ : ∀ (y2 y19 y20 y21 y22 y23 y171 y172 y173 y174 y175 y176 y177 y178 y179 y180 y181 y182 y183 y184 y185 y186 y187 y188 y189 y190 y191 y192 y193 y194 y195 y196 y197 y198 y199 y200 y201 y202 y203 y204 y205 y206 y207 y208 y209 y210 y211 y212 y213 y214 y215 y216 y217 y218 y219 y220 y221 y222 y223 y224 y225 y226 y227 y228 : Value) (W : World), Blk W SB (matC 9 ra rb rc) → Blk W RB (rngC 3 ra rb rc) → Ext w W → Q (.exit 8) { tmps := #[s0, s1, y2, .pointer (some ⟨RB, 0, none⟩), s4, s5, s6, .pointer (some ⟨SB, 0, none⟩), s8, s9, s10, s11, s12, s13, s14, s15, s16, s17, .int .i64 1, y19, y20, y21, y22, y23, s24, s25, s26, s27, s28, s29, s30, s31, s32, s33, s34, s35, s36, s37, s38, s39, s40, s41, s42, s43, s44, s45, s46, s47, s48, s49, s50, s51, s52, s53, s54, s55, s56, s57, s58, s59, s60, s61, s62, s63, s64, s65, s66, s67, s68, s69, s70, s71, s72, s73, s74, s75, s76, s77, s78, s79, s80, s81, s82, s83, s84, s85, s86, s87, s88, s89, s90, s91, s92, s93, s94, s95, s96, s97, s98, s99, s100, s101, s102, s103, s104, s105, s106, s107, s108, s109, s110, s111, s112, s113, s114, s115, s116, s117, s118, s119, s120, s121, s122, s123, s124, s125, s126, s127, s128, s129, s130, s131, s132, s133, s134, s135, s136, s137, s138, s139, s140, s141, s142, s143, s144, s145, s146, s147, s148, s149, s150, s151, s152, s153, s154, s155, s156, s157, s158, s159, s160, s161, s162, s163, s164, s165, s166, s167, s168, s169, s170, y171, y172, y173, y174, y175, y176, y177, y178, y179, y180, y181, y182, y183, y184, y185, y186, y187, y188, y189, y190, y191, y192, y193, y194, y195, y196, y197, y198, y199, y200, y201, y202, y203, y204, y205, y206, y207, y208, y209, y210, y211, y212, y213, y214, y215, y216, y217, y218, y219, y220, y221, y222, y223, y224, y225, y226, y227, y228, s229, s230, s231, s232, s233, s234, s235, s236, s237, s238, s239, s240, s241, s242, s243, s244, s245, s246, s247, s248, s249, s250, s251, s252, s253, s254, s255, s256, s257], defers := [] } W) :
    c.wp Try.prog Q { tmps := #[s0, s1, s2, .pointer (some ⟨RB, 0, none⟩), s4, s5, s6, .pointer (some ⟨SB, 0, none⟩), s8, s9, s10, s11, s12, s13, s14, s15, s16, s17, .int .i64 1, .int .i64 0, s20, s21, s22, s23, s24, s25, s26, s27, s28, s29, s30, s31, s32, s33, s34, s35, s36, s37, s38, s39, s40, s41, s42, s43, s44, s45, s46, s47, s48, s49, s50, s51, s52, s53, s54, s55, s56, s57, s58, s59, s60, s61, s62, s63, s64, s65, s66, s67, s68, s69, s70, s71, s72, s73, s74, s75, s76, s77, s78, s79, s80, s81, s82, s83, s84, s85, s86, s87, s88, s89, s90, s91, s92, s93, s94, s95, s96, s97, s98, s99, s100, s101, s102, s103, s104, s105, s106, s107, s108, s109, s110, s111, s112, s113, s114, s115, s116, s117, s118, s119, s120, s121, s122, s123, s124, s125, s126, s127, s128, s129, s130, s131, s132, s133, s134, s135, s136, s137, s138, s139, s140, s141, s142, s143, s144, s145, s146, s147, s148, s149, s150, s151, s152, s153, s154, s155, s156, s157, s158, s159, s160, s161, s162, s163, s164, s165, s166, s167, s168, s169, s170, s171, s172, s173, s174, s175, s176, s177, s178, s179, s180, s181, s182, s183, s184, s185, s186, s187, s188, s189, s190, s191, s192, s193, s194, s195, s196, s197, s198, s199, s200, s201, s202, s203, s204, s205, s206, s207, s208, s209, s210, s211, s212, s213, s214, s215, s216, s217, s218, s219, s220, s221, s222, s223, s224, s225, s226, s227, s228, s229, s230, s231, s232, s233, s234, s235, s236, s237, s238, s239, s240, s241, s242, s243, s244, s245, s246, s247, s248, s249, s250, s251, s252, s253, s254, s255, s256, s257], defers := [] } W0 := by
  simp only [Try.f10, Option.getD_some, codeBlk, ↓reduceIte, Nat.reduceEqDiff, Option.some.injEq, Code.block.injEq, true_and] at hc
  subst hc
  have HQ := Lib.hid hQ
  clear hQ
  dsimp only
  go_loopw [19, 20, 21, 22] (fun j _ _ _ wr => ∃ k : Nat, k ≤ 3 ∧ j = .int .i64 k ∧ Blk wr SB #[.bool (sOf ra ra), .bool (sOf ra rb), .bool (sOf ra rc), .bool (sOf rb ra), .bool (sOf rb rb), .bool (sOf rb rc), .bool (sOf rc ra), .bool (sOf rc rb), .bool (sOf rc rc)] ∧ Blk wr RB #[.int .i64 ra.lo.n, .int .i64 ra.lo.d, .int .i64 ra.hi.n, .int .i64 ra.hi.d, .int .i64 rb.lo.n, .int .i64 rb.lo.d, .int .i64 rb.hi.n, .int .i64 rb.hi.d, .int .i64 rc.lo.n, .int .i64 rc.lo.d, .int .i64 rc.hi.n, .int .i64 rc.hi.d] ∧ Ext w wr) (fun j _ _ _ _ => 3 - (intOf j).toNat)
  case atStart => exact ⟨0, by omega, rfl, HS9.out, HR.out, HX9.out⟩
  case round =>
    clear HR HS9 HX9
    obtain ⟨k, hk, rfl, hS, hR, hx⟩ := hrel
    have HS := Lib.hid hS
    have HR := Lib.hid hR
    have HX := Lib.hid hx
    clear hS hR hx
    obtain rfl | rfl | rfl | rfl : k = 0 ∨ k = 1 ∨ k = 2 ∨ k = 3 := by omega
    · rw [show ((0 : Nat) : Int) = 0 from rfl]
      have c0 := HR.out.cell 0 (v := .int .i64 ra.lo.n) rfl
      have c1 := HR.out.cell 1 (v := .int .i64 ra.lo.d) rfl
      have c2 := HR.out.cell 2 (v := .int .i64 ra.hi.n) rfl
      have c3 := HR.out.cell 3 (v := .int .i64 ra.hi.d) rfl
      have c4 := HR.out.cell 4 (v := .int .i64 rb.lo.n) rfl
      have c5 := HR.out.cell 5 (v := .int .i64 rb.lo.d) rfl
      have c6 := HR.out.cell 6 (v := .int .i64 rb.hi.n) rfl
      have c7 := HR.out.cell 7 (v := .int .i64 rb.hi.d) rfl
      have c8 := HR.out.cell 8 (v := .int .i64 rc.lo.n) rfl
      have c9 := HR.out.cell 9 (v := .int .i64 rc.lo.d) rfl
      have c10 := HR.out.cell 10 (v := .int .i64 rc.hi.n) rfl
      have c11 := HR.out.cell 11 (v := .int .i64 rc.hi.d) rfl
      have cl := HR.out.lt
      have hn : ¬ (wr.heap.size ≤ RB) := by have := HR.out.lt; omega
      obtain ⟨S, hS⟩ : ∃ y, sOf ra rb = y := ⟨_, rfl⟩
      obtain ⟨Pv, hP⟩ : ∃ y, pOf ra rb = y := ⟨_, rfl⟩
      have HBET := Lib.hid (fun W => better_rng ra rb HVA.out HVB.out W)
      rw [hS, hP] at HBET
      have HPP := Lib.hid hP
      clear hS hP
      go_wp2_with fail
      refine wp_region_lat (by kernel_rfl) (fun b _ => wr.heap.size ≤ b) (fun _ => false) (fun _ _ => True) (fun _ _ _ => True) (by kernel_rfl) (fun k hk => by cases hk) (fun _ _ _ _ _ h => h) (fun _ _ _ _ h _ => h) (fun _ => undef) (fun _ _ => trivial) trivial ?_
      intro T hT hne2 u hu
      refine lx_next 14 (by rfl) (by decide) ?_
      dsimp only [List.take, List.drop]
      repeat (go_big_quiet_step (with_reducible refine Calls.lat hT (HBET.out _)))
      refine wpQuiet_nil ?_
      refine lx_nil ?_
      intro y hs
      have HE5 := Lib.hid (Chg.to_ext (Ext.refl wr) y.chg (by rintro i ⟨_, h⟩; exact h))
      clear hs hu hT hne2 c0 c1 c2 c3 c4 c5 c6 c7 c8 c9 c10 c11 cl hn
      generalize y.world = W5 at *
      clear y
      have HR5 := Lib.hid (HR.out.ext HE5.out)
      have HS5 : Hid (Blk W5 SB #[.bool (sOf ra ra), .bool (sOf ra rb), .bool (sOf ra rc), .bool (sOf rb ra), .bool (sOf rb rb), .bool (sOf rb rc), .bool (sOf rc ra), .bool (sOf rc rb), .bool (sOf rc rc)]) := Lib.hid (HS.out.ext HE5.out)
      have HX5 := Lib.hid (HX.out.trans HE5.out)
      clear HR HS HX HE5 HBET
      cases hik : sOf rb ra
      · have d0 : W5.cell? ⟨SB, 3, none⟩ = some (.bool false) := by rw [← hik]; exact HS5.out.cell 3 rfl
        have D0 := Lib.hid d0
        clear hik
        go_wp2_with fail
        clear d0
        go_loopw [23] (fun m wx => ∃ q : Nat, q ≤ 3 ∧ m = .int .i64 q ∧ Ext W5 wx) (fun m _ => 3 - (intOf m).toNat)
        case atStart => exact ⟨0, by omega, rfl, Ext.refl _⟩
        case round =>
          obtain ⟨q, hq, rfl, hx⟩ := hrel
          have d0 := hx.cell D0.out
          have HXQ := Lib.hid hx
          clear hx
          by_cases hlt : q < 3
          · go_wp2_with fail
            go_roundw
            case rel => exact ⟨q + 1, by omega, by go_num, HXQ.out⟩
            case measure => simp [intOf]; omega
          · obtain rfl : q = 3 := by omega
            rw [show ((3 : Nat) : Int) = 3 from rfl]
            go_wp2_with fail
            go_roundw
            case rel => exact ⟨1, by omega, by go_num, HS5.out.ext HXQ.out, HR5.out.ext HXQ.out, HX5.out.trans HXQ.out⟩
            case measure => simp [intOf]
      · have HIK := Lib.hid hik
        have HKI : Hid (sOf ra rb = false) := Lib.hid (s_anti HVB.out HVA.out hik)
        obtain rfl : Pv = false := by rw [← HPP.out]; exact s_back hik
        have d0 : W5.cell? ⟨SB, 3, none⟩ = some (.bool true) := by rw [← hik]; exact HS5.out.cell 3 rfl
        have d1 : W5.cell? ⟨SB, 1, none⟩ = some (.bool false) := by rw [← HKI.out]; exact HS5.out.cell 1 rfl
        have D0 := Lib.hid d0
        clear hik
        go_wp2_with fail
        clear d0 d1
        go_loopw [23] (fun m wx => ∃ q : Nat, q ≤ 3 ∧ m = .int .i64 q ∧ Ext W5 wx) (fun m _ => 3 - (intOf m).toNat)
        case atStart => exact ⟨0, by omega, rfl, Ext.refl _⟩
        case round =>
          obtain ⟨q, hq, rfl, hx⟩ := hrel
          obtain rfl | rfl | rfl | rfl : q = 0 ∨ q = 1 ∨ q = 2 ∨ q = 3 := by omega
          · rw [show ((0 : Nat) : Int) = 0 from rfl]
            have d0 := hx.cell D0.out
            have HXQ := Lib.hid hx
            clear hx
            cases hkm : sOf ra ra
            · have e1 : W5.cell? ⟨SB, 0, none⟩ = some (.bool false) := by rw [← hkm]; exact HS5.out.cell 0 rfl
              replace e1 := HXQ.out.cell e1
              clear hkm
              go_wp2_with fail
              go_roundw
              case rel => exact ⟨1, by omega, by go_num, HXQ.out⟩
              case measure => simp [intOf]
            · exact absurd hkm (by rw [s_same HVA.out]; decide)
          · rw [show ((1 : Nat) : Int) = 1 from rfl]
            have d0 := hx.cell D0.out
            have HXQ := Lib.hid hx
            clear hx
            cases hkm : sOf ra rb
            · have e1 : W5.cell? ⟨SB, 1, none⟩ = some (.bool false) := by rw [← hkm]; exact HS5.out.cell 1 rfl
              replace e1 := HXQ.out.cell e1
              clear hkm
              go_wp2_with fail
              go_roundw
              case rel => exact ⟨2, by omega, by go_num, HXQ.out⟩
              case measure => simp [intOf]
            · exact absurd hkm (by rw [HKI.out]; decide)
          · rw [show ((2 : Nat) : Int) = 2 from rfl]
            have d0 := hx.cell D0.out
            have HXQ := Lib.hid hx
            clear hx
            cases hkm : sOf ra rc
            · have e1 : W5.cell? ⟨SB, 2, none⟩ = some (.bool false) := by rw [← hkm]; exact HS5.out.cell 2 rfl
              replace e1 := HXQ.out.cell e1
              clear hkm
              go_wp2_with fail
              go_roundw
              case rel => exact ⟨3, by omega, by go_num, HXQ.out⟩
              case measure => simp [intOf]
            · have e1 : W5.cell? ⟨SB, 2, none⟩ = some (.bool true) := by rw [← hkm]; exact HS5.out.cell 2 rfl
              have e2 : W5.cell? ⟨SB, 5, none⟩ = some (.bool true) := by rw [← s_trans HVB.out HVA.out HVC.out HIK.out hkm]; exact HS5.out.cell 5 rfl
              replace e1 := HXQ.out.cell e1
              replace e2 := HXQ.out.cell e2
              clear hkm
              go_wp2_with fail
              go_roundw
              case rel => exact ⟨3, by omega, by go_num, HXQ.out⟩
              case measure => simp [intOf]
          · rw [show ((3 : Nat) : Int) = 3 from rfl]
            have HXQ := Lib.hid hx
            clear hx
            go_wp2_with fail
            go_roundw
            case rel => exact ⟨1, by omega, by go_num, HS5.out.ext HXQ.out, HR5.out.ext HXQ.out, HX5.out.trans HXQ.out⟩
            case measure => simp [intOf]
    · rw [show ((1 : Nat) : Int) = 1 from rfl]
      have c0 := HR.out.cell 0 (v := .int .i64 ra.lo.n) rfl
      have c1 := HR.out.cell 1 (v := .int .i64 ra.lo.d) rfl
      have c2 := HR.out.cell 2 (v := .int .i64 ra.hi.n) rfl
      have c3 := HR.out.cell 3 (v := .int .i64 ra.hi.d) rfl
      have c4 := HR.out.cell 4 (v := .int .i64 rb.lo.n) rfl
      have c5 := HR.out.cell 5 (v := .int .i64 rb.lo.d) rfl
      have c6 := HR.out.cell 6 (v := .int .i64 rb.hi.n) rfl
      have c7 := HR.out.cell 7 (v := .int .i64 rb.hi.d) rfl
      have c8 := HR.out.cell 8 (v := .int .i64 rc.lo.n) rfl
      have c9 := HR.out.cell 9 (v := .int .i64 rc.lo.d) rfl
      have c10 := HR.out.cell 10 (v := .int .i64 rc.hi.n) rfl
      have c11 := HR.out.cell 11 (v := .int .i64 rc.hi.d) rfl
      have cl := HR.out.lt
      have hn : ¬ (wr.heap.size ≤ RB) := by have := HR.out.lt; omega
      obtain ⟨S, hS⟩ : ∃ y, sOf rb rb = y := ⟨_, rfl⟩
      obtain ⟨Pv, hP⟩ : ∃ y, pOf rb rb = y := ⟨_, rfl⟩
      have HBET := Lib.hid (fun W => better_rng rb rb HVB.out HVB.out W)
      rw [hS, hP] at HBET
      have HPP := Lib.hid hP
      clear hS hP
      go_wp2_with fail
      refine wp_region_lat (by kernel_rfl) (fun b _ => wr.heap.size ≤ b) (fun _ => false) (fun _ _ => True) (fun _ _ _ => True) (by kernel_rfl) (fun k hk => by cases hk) (fun _ _ _ _ _ h => h) (fun _ _ _ _ h _ => h) (fun _ => undef) (fun _ _ => trivial) trivial ?_
      intro T hT hne2 u hu
      refine lx_next 14 (by rfl) (by decide) ?_
      dsimp only [List.take, List.drop]
      repeat (go_big_quiet_step (with_reducible refine Calls.lat hT (HBET.out _)))
      refine wpQuiet_nil ?_
      refine lx_nil ?_
      intro y hs
      have HE5 := Lib.hid (Chg.to_ext (Ext.refl wr) y.chg (by rintro i ⟨_, h⟩; exact h))
      clear hs hu hT hne2 c0 c1 c2 c3 c4 c5 c6 c7 c8 c9 c10 c11 cl hn
      generalize y.world = W5 at *
      clear y
      have HR5 := Lib.hid (HR.out.ext HE5.out)
      have HS5 : Hid (Blk W5 SB #[.bool (sOf ra ra), .bool (sOf ra rb), .bool (sOf ra rc), .bool (sOf rb ra), .bool (sOf rb rb), .bool (sOf rb rc), .bool (sOf rc ra), .bool (sOf rc rb), .bool (sOf rc rc)]) := Lib.hid (HS.out.ext HE5.out)
      have HX5 := Lib.hid (HX.out.trans HE5.out)
      clear HR HS HX HE5 HBET
      cases hik : sOf rb rb
      · have d0 : W5.cell? ⟨SB, 4, none⟩ = some (.bool false) := by rw [← hik]; exact HS5.out.cell 4 rfl
        have D0 := Lib.hid d0
        clear hik
        go_wp2_with fail
        clear d0
        go_loopw [23] (fun m wx => ∃ q : Nat, q ≤ 3 ∧ m = .int .i64 q ∧ Ext W5 wx) (fun m _ => 3 - (intOf m).toNat)
        case atStart => exact ⟨0, by omega, rfl, Ext.refl _⟩
        case round =>
          obtain ⟨q, hq, rfl, hx⟩ := hrel
          have d0 := hx.cell D0.out
          have HXQ := Lib.hid hx
          clear hx
          by_cases hlt : q < 3
          · go_wp2_with fail
            go_roundw
            case rel => exact ⟨q + 1, by omega, by go_num, HXQ.out⟩
            case measure => simp [intOf]; omega
          · obtain rfl : q = 3 := by omega
            rw [show ((3 : Nat) : Int) = 3 from rfl]
            go_wp2_with fail
            go_roundw
            case rel => exact ⟨2, by omega, by go_num, HS5.out.ext HXQ.out, HR5.out.ext HXQ.out, HX5.out.trans HXQ.out⟩
            case measure => simp [intOf]
      · exact absurd hik (by rw [s_same HVB.out]; decide)
    · rw [show ((2 : Nat) : Int) = 2 from rfl]
      have c0 := HR.out.cell 0 (v := .int .i64 ra.lo.n) rfl
      have c1 := HR.out.cell 1 (v := .int .i64 ra.lo.d) rfl
      have c2 := HR.out.cell 2 (v := .int .i64 ra.hi.n) rfl
      have c3 := HR.out.cell 3 (v := .int .i64 ra.hi.d) rfl
      have c4 := HR.out.cell 4 (v := .int .i64 rb.lo.n) rfl
      have c5 := HR.out.cell 5 (v := .int .i64 rb.lo.d) rfl
      have c6 := HR.out.cell 6 (v := .int .i64 rb.hi.n) rfl
      have c7 := HR.out.cell 7 (v := .int .i64 rb.hi.d) rfl
      have c8 := HR.out.cell 8 (v := .int .i64 rc.lo.n) rfl
      have c9 := HR.out.cell 9 (v := .int .i64 rc.lo.d) rfl
      have c10 := HR.out.cell 10 (v := .int .i64 rc.hi.n) rfl
      have c11 := HR.out.cell 11 (v := .int .i64 rc.hi.d) rfl
      have cl := HR.out.lt
      have hn : ¬ (wr.heap.size ≤ RB) := by have := HR.out.lt; omega
      obtain ⟨S, hS⟩ : ∃ y, sOf rc rb = y := ⟨_, rfl⟩
      obtain ⟨Pv, hP⟩ : ∃ y, pOf rc rb = y := ⟨_, rfl⟩
      have HBET := Lib.hid (fun W => better_rng rc rb HVC.out HVB.out W)
      rw [hS, hP] at HBET
      have HPP := Lib.hid hP
      clear hS hP
      go_wp2_with fail
      refine wp_region_lat (by kernel_rfl) (fun b _ => wr.heap.size ≤ b) (fun _ => false) (fun _ _ => True) (fun _ _ _ => True) (by kernel_rfl) (fun k hk => by cases hk) (fun _ _ _ _ _ h => h) (fun _ _ _ _ h _ => h) (fun _ => undef) (fun _ _ => trivial) trivial ?_
      intro T hT hne2 u hu
      refine lx_next 14 (by rfl) (by decide) ?_
      dsimp only [List.take, List.drop]
      repeat (go_big_quiet_step (with_reducible refine Calls.lat hT (HBET.out _)))
      refine wpQuiet_nil ?_
      refine lx_nil ?_
      intro y hs
      have HE5 := Lib.hid (Chg.to_ext (Ext.refl wr) y.chg (by rintro i ⟨_, h⟩; exact h))
      clear hs hu hT hne2 c0 c1 c2 c3 c4 c5 c6 c7 c8 c9 c10 c11 cl hn
      generalize y.world = W5 at *
      clear y
      have HR5 := Lib.hid (HR.out.ext HE5.out)
      have HS5 : Hid (Blk W5 SB #[.bool (sOf ra ra), .bool (sOf ra rb), .bool (sOf ra rc), .bool (sOf rb ra), .bool (sOf rb rb), .bool (sOf rb rc), .bool (sOf rc ra), .bool (sOf rc rb), .bool (sOf rc rc)]) := Lib.hid (HS.out.ext HE5.out)
      have HX5 := Lib.hid (HX.out.trans HE5.out)
      clear HR HS HX HE5 HBET
      cases hik : sOf rb rc
      · have d0 : W5.cell? ⟨SB, 5, none⟩ = some (.bool false) := by rw [← hik]; exact HS5.out.cell 5 rfl
        have D0 := Lib.hid d0
        clear hik
        go_wp2_with fail
        clear d0
        go_loopw [23] (fun m wx => ∃ q : Nat, q ≤ 3 ∧ m = .int .i64 q ∧ Ext W5 wx) (fun m _ => 3 - (intOf m).toNat)
        case atStart => exact ⟨0, by omega, rfl, Ext.refl _⟩
        case round =>
          obtain ⟨q, hq, rfl, hx⟩ := hrel
          have d0 := hx.cell D0.out
          have HXQ := Lib.hid hx
          clear hx
          by_cases hlt : q < 3
          · go_wp2_with fail
            go_roundw
            case rel => exact ⟨q + 1, by omega, by go_num, HXQ.out⟩
            case measure => simp [intOf]; omega
          · obtain rfl : q = 3 := by omega
            rw [show ((3 : Nat) : Int) = 3 from rfl]
            go_wp2_with fail
            go_roundw
            case rel => exact ⟨3, by omega, by go_num, HS5.out.ext HXQ.out, HR5.out.ext HXQ.out, HX5.out.trans HXQ.out⟩
            case measure => simp [intOf]
      · have HIK := Lib.hid hik
        have HKI : Hid (sOf rc rb = false) := Lib.hid (s_anti HVB.out HVC.out hik)
        obtain rfl : Pv = false := by rw [← HPP.out]; exact s_back hik
        have d0 : W5.cell? ⟨SB, 5, none⟩ = some (.bool true) := by rw [← hik]; exact HS5.out.cell 5 rfl
        have d1 : W5.cell? ⟨SB, 7, none⟩ = some (.bool false) := by rw [← HKI.out]; exact HS5.out.cell 7 rfl
        have D0 := Lib.hid d0
        clear hik
        go_wp2_with fail
        clear d0 d1
        go_loopw [23] (fun m wx => ∃ q : Nat, q ≤ 3 ∧ m = .int .i64 q ∧ Ext W5 wx) (fun m _ => 3 - (intOf m).toNat)
        case atStart => exact ⟨0, by omega, rfl, Ext.refl _⟩
        case round =>
          obtain ⟨q, hq, rfl, hx⟩ := hrel
          obtain rfl | rfl | rfl | rfl : q = 0 ∨ q = 1 ∨ q = 2 ∨ q = 3 := by omega
          · rw [show ((0 : Nat) : Int) = 0 from rfl]
            have d0 := hx.cell D0.out
            have HXQ := Lib.hid hx
            clear hx
            cases hkm : sOf rc ra
            · have e1 : W5.cell? ⟨SB, 6, none⟩ = some (.bool false) := by rw [← hkm]; exact HS5.out.cell 6 rfl
              replace e1 := HXQ.out.cell e1
              clear hkm
              go_wp2_with fail
              go_roundw
              case rel => exact ⟨1, by omega, by go_num, HXQ.out⟩
              case measure => simp [intOf]
            · have e1 : W5.cell? ⟨SB, 6, none⟩ = some (.bool true) := by rw [← hkm]; exact HS5.out.cell 6 rfl
              have e2 : W5.cell? ⟨SB, 3, none⟩ = some (.bool true) := by rw [← s_trans HVB.out HVC.out HVA.out HIK.out hkm]; exact HS5.out.cell 3 rfl
              replace e1 := HXQ.out.cell e1
              replace e2 := HXQ.out.cell e2
              clear hkm
              go_wp2_with fail
              go_roundw
              case rel => exact ⟨1, by omega, by go_num, HXQ.out⟩
              case measure => simp [intOf]
          · rw [show ((1 : Nat) : Int) = 1 from rfl]
            have d0 := hx.cell D0.out
            have HXQ := Lib.hid hx
            clear hx
            cases hkm : sOf rc rb
            · have e1 : W5.cell? ⟨SB, 7, none⟩ = some (.bool false) := by rw [← hkm]; exact HS5.out.cell 7 rfl
              replace e1 := HXQ.out.cell e1
              clear hkm
              go_wp2_with fail
              go_roundw
              case rel => exact ⟨2, by omega, by go_num, HXQ.out⟩
              case measure => simp [intOf]
            · exact absurd hkm (by rw [HKI.out]; decide)
          · rw [show ((2 : Nat) : Int) = 2 from rfl]
            have d0 := hx.cell D0.out
            have HXQ := Lib.hid hx
            clear hx
            cases hkm : sOf rc rc
            · have e1 : W5.cell? ⟨SB, 8, none⟩ = some (.bool false) := by rw [← hkm]; exact HS5.out.cell 8 rfl
              replace e1 := HXQ.out.cell e1
              clear hkm
              go_wp2_with fail
              go_roundw
              case rel => exact ⟨3, by omega, by go_num, HXQ.out⟩
              case measure => simp [intOf]
            · exact absurd hkm (by rw [s_same HVC.out]; decide)
          · rw [show ((3 : Nat) : Int) = 3 from rfl]
            have HXQ := Lib.hid hx
            clear hx
            go_wp2_with fail
            go_roundw
            case rel => exact ⟨3, by omega, by go_num, HS5.out.ext HXQ.out, HR5.out.ext HXQ.out, HX5.out.trans HXQ.out⟩
            case measure => simp [intOf]
    · rw [show ((3 : Nat) : Int) = 3 from rfl]
      go_wp2_with fail
      exact HQ.out _ _ _ _ _ _ _ _ _ _ _ _ _ _ _ _ _ _ _ _ _ _ _ _ _ _ _ _ _ _ _ _ _ _ _ _ _ _ _ _ _ _ _ _ _ _ _ _ _ _ _ _ _ _ _ _ _ _ _ _ _ _ _ _ _ HS.out HR.out HX.out
end Go.Proofs.Ytmopadnkjlodnaa
