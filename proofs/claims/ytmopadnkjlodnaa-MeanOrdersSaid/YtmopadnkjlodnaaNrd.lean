/-
  MeanOrders: the verdicts of row 2.
-/
import Derived.Test.YtmopadnkjlodnaaNra
namespace Go.Proofs.Ytmopadnkjlodnaa
open Go.RowKit Go.BigFrame
attribute [local go_sem] Later.cell Later.frozen Lat.cell Lat.frozen
set_option maxRecDepth 100000 in
set_option maxHeartbeats 8000000 in
/-- The verdicts of one row. -/
theorem ord_row2 (c : Code) (hc : codeBlk 4 (Try.f10.body.getD .skip) = some (.block 4 c)) (Q : Exit → Act → World → Prop) (ra rb rc : Ran) (RB SB : Nat) (w W0 : World) (HVA : Hid (RngV ra)) (HVB : Hid (RngV rb)) (HVC : Hid (RngV rc)) (HSB : Hid (w.heap.size ≤ SB ∧ SB ≠ RB)) {s0 s1 s2 s4 s5 s6 s10 s11 s12 s13 s14 s15 s16 s17 s18 s19 s20 s21 s22 s23 s24 s25 s26 s27 s28 s29 s30 s31 s32 s33 s34 s35 s36 s37 s38 s39 s40 s41 s42 s43 s44 s45 s46 s47 s48 s49 s50 s51 s52 s53 s54 s55 s56 s57 s58 s59 s60 s61 s62 s63 s64 s65 s66 s67 s68 s69 s70 s71 s72 s73 s74 s75 s76 s77 s78 s79 s80 s81 s82 s83 s84 s85 s86 s87 s88 s89 s90 s91 s92 s93 s94 s95 s96 s97 s98 s99 s100 s101 s102 s103 s104 s105 s106 s107 s108 s109 s110 s111 s112 s113 s114 s115 s116 s117 s118 s119 s120 s121 s122 s123 s124 s125 s126 s127 s128 s129 s130 s131 s132 s133 s134 s135 s136 s137 s138 s139 s140 s141 s142 s143 s144 s145 s146 s147 s148 s149 s150 s151 s152 s153 s154 s155 s156 s157 s158 s159 s160 s161 s162 s163 s164 s165 s166 s167 s168 s169 s170 s171 s172 s173 s174 s175 s176 s177 s178 s179 s180 s181 s182 s183 s184 s185 s186 s187 s188 s189 s190 s191 s192 s193 s194 s195 s196 s197 s198 s199 s200 s201 s202 s203 s204 s205 s206 s207 s208 s209 s210 s211 s212 s213 s214 s215 s216 s217 s218 s219 s220 s221 s222 s223 s224 s225 s226 s227 s228 s229 s230 s231 s232 s233 s234 s235 s236 s237 s238 s239 s240 s241 s242 s243 s244 s245 s246 s247 s248 s249 s250 s251 s252 s253 s254 s255 s256 s257 : Value}
    (HS9 : Hid (Blk W0 SB (matC 6 ra rb rc))) (HR : Hid (Blk W0 RB (rngC 3 ra rb rc))) (HX9 : Hid (Ext w W0))
    (hQ : ∀ (y2 y9 y10 y11 y12 y82 y83 y84 y85 y86 y87 y88 y89 y90 y91 y92 y93 y94 y95 y96 y97 y98 y99 y100 y101 y102 y103 y104 y105 y106 y107 y108 y109 y110 y111 y112 y113 y114 y115 y116 y117 y118 y119 y120 y121 y122 y123 y124 y125 y126 y127 y128 y129 y130 y131 y132 y133 y134 y135 y136 y137 y138 y139 y140 y141 y142 y143 y144 y145 : Value) (W : World), Blk W SB (matC 9 ra rb rc) → Blk W RB (rngC 3 ra rb rc) → Ext w W → Q (.exit 4) { tmps := #[s0, s1, y2, .pointer (some ⟨RB, 0, none⟩), s4, s5, s6, .pointer (some ⟨SB, 0, none⟩), .int .i64 2, y9, y10, y11, y12, s13, s14, s15, s16, s17, s18, s19, s20, s21, s22, s23, s24, s25, s26, s27, s28, s29, s30, s31, s32, s33, s34, s35, s36, s37, s38, s39, s40, s41, s42, s43, s44, s45, s46, s47, s48, s49, s50, s51, s52, s53, s54, s55, s56, s57, s58, s59, s60, s61, s62, s63, s64, s65, s66, s67, s68, s69, s70, s71, s72, s73, s74, s75, s76, s77, s78, s79, s80, s81, y82, y83, y84, y85, y86, y87, y88, y89, y90, y91, y92, y93, y94, y95, y96, y97, y98, y99, y100, y101, y102, y103, y104, y105, y106, y107, y108, y109, y110, y111, y112, y113, y114, y115, y116, y117, y118, y119, y120, y121, y122, y123, y124, y125, y126, y127, y128, y129, y130, y131, y132, y133, y134, y135, y136, y137, y138, y139, y140, y141, y142, y143, y144, y145, s146, s147, s148, s149, s150, s151, s152, s153, s154, s155, s156, s157, s158, s159, s160, s161, s162, s163, s164, s165, s166, s167, s168, s169, s170, s171, s172, s173, s174, s175, s176, s177, s178, s179, s180, s181, s182, s183, s184, s185, s186, s187, s188, s189, s190, s191, s192, s193, s194, s195, s196, s197, s198, s199, s200, s201, s202, s203, s204, s205, s206, s207, s208, s209, s210, s211, s212, s213, s214, s215, s216, s217, s218, s219, s220, s221, s222, s223, s224, s225, s226, s227, s228, s229, s230, s231, s232, s233, s234, s235, s236, s237, s238, s239, s240, s241, s242, s243, s244, s245, s246, s247, s248, s249, s250, s251, s252, s253, s254, s255, s256, s257], defers := [] } W) :
    c.wp Try.prog Q { tmps := #[s0, s1, s2, .pointer (some ⟨RB, 0, none⟩), s4, s5, s6, .pointer (some ⟨SB, 0, none⟩), .int .i64 2, .int .i64 0, s10, s11, s12, s13, s14, s15, s16, s17, s18, s19, s20, s21, s22, s23, s24, s25, s26, s27, s28, s29, s30, s31, s32, s33, s34, s35, s36, s37, s38, s39, s40, s41, s42, s43, s44, s45, s46, s47, s48, s49, s50, s51, s52, s53, s54, s55, s56, s57, s58, s59, s60, s61, s62, s63, s64, s65, s66, s67, s68, s69, s70, s71, s72, s73, s74, s75, s76, s77, s78, s79, s80, s81, s82, s83, s84, s85, s86, s87, s88, s89, s90, s91, s92, s93, s94, s95, s96, s97, s98, s99, s100, s101, s102, s103, s104, s105, s106, s107, s108, s109, s110, s111, s112, s113, s114, s115, s116, s117, s118, s119, s120, s121, s122, s123, s124, s125, s126, s127, s128, s129, s130, s131, s132, s133, s134, s135, s136, s137, s138, s139, s140, s141, s142, s143, s144, s145, s146, s147, s148, s149, s150, s151, s152, s153, s154, s155, s156, s157, s158, s159, s160, s161, s162, s163, s164, s165, s166, s167, s168, s169, s170, s171, s172, s173, s174, s175, s176, s177, s178, s179, s180, s181, s182, s183, s184, s185, s186, s187, s188, s189, s190, s191, s192, s193, s194, s195, s196, s197, s198, s199, s200, s201, s202, s203, s204, s205, s206, s207, s208, s209, s210, s211, s212, s213, s214, s215, s216, s217, s218, s219, s220, s221, s222, s223, s224, s225, s226, s227, s228, s229, s230, s231, s232, s233, s234, s235, s236, s237, s238, s239, s240, s241, s242, s243, s244, s245, s246, s247, s248, s249, s250, s251, s252, s253, s254, s255, s256, s257], defers := [] } W0 := by
  simp only [Try.f10, Option.getD_some, codeBlk, ↓reduceIte, Nat.reduceEqDiff, Option.some.injEq, Code.block.injEq, true_and] at hc
  subst hc
  have HQ := Lib.hid hQ
  clear hQ
  dsimp only
  go_loopw [9, 10, 11, 12] (fun j _ _ _ wr => ∃ k : Nat, k ≤ 3 ∧ j = .int .i64 k ∧ Blk wr SB (matC (6 + k) ra rb rc) ∧ Blk wr RB (rngC 3 ra rb rc) ∧ Ext w wr) (fun j _ _ _ _ => 3 - (intOf j).toNat)
  case atStart => exact ⟨0, by omega, rfl, HS9.out, HR.out, HX9.out⟩
  case round =>
    clear HR HS9 HX9
    obtain ⟨k, hk, rfl, hS, hR, hx⟩ := hrel
    have HS := Lib.hid hS
    have HR : Hid (Blk wr RB #[.int .i64 ra.lo.n, .int .i64 ra.lo.d, .int .i64 ra.hi.n, .int .i64 ra.hi.d, .int .i64 rb.lo.n, .int .i64 rb.lo.d, .int .i64 rb.hi.n, .int .i64 rb.hi.d, .int .i64 rc.lo.n, .int .i64 rc.lo.d, .int .i64 rc.hi.n, .int .i64 rc.hi.d]) := Lib.hid hR
    have HX := Lib.hid hx
    clear hS hR hx
    obtain rfl | rfl | rfl | rfl : k = 0 ∨ k = 1 ∨ k = 2 ∨ k = 3 := by omega
    · rw [show ((0 : Nat) : Int) = 0 from rfl]
      have c0 := HR.out.cell 0 (v := .int .i64 ra.lo.n) rfl
      have c1 := HR.out.cell 1 (v := .int .i64 ra.lo.d) rfl
      have c2 := HR.out.cell 2 (v := .int .i64 ra.hi.n) rfl
      have c3 := HR.out.cell 3 (v := .int .i64 ra.hi.d) rfl
      have c4 := HR.out.cell 4 (v := .int .i64 rb.lo.n) rfl
      have c5 := HR.out.cell 5 (v := .int .i64 rb.lo.d) rfl
      have c6 := HR.out.cell 6 (v := .int .i64 rb.hi.n) rfl
      have c7 := HR.out.cell 7 (v := .int .i64 rb.hi.d) rfl
      have c8 := HR.out.cell 8 (v := .int .i64 rc.lo.n) rfl
      have c9 := HR.out.cell 9 (v := .int .i64 rc.lo.d) rfl
      have c10 := HR.out.cell 10 (v := .int .i64 rc.hi.n) rfl
      have c11 := HR.out.cell 11 (v := .int .i64 rc.hi.d) rfl
      have cl := HR.out.lt
      have hn : ¬ (wr.heap.size ≤ RB) := by have := HR.out.lt; omega
      obtain ⟨S, hS⟩ : ∃ y, sOf rc ra = y := ⟨_, rfl⟩
      obtain ⟨Pv, hP⟩ : ∃ y, pOf rc ra = y := ⟨_, rfl⟩
      have HSS := Lib.hid hS
      have HPP := Lib.hid hP
      have HBET := Lib.hid (fun W => better_rng rc ra HVC.out HVA.out W)
      rw [hS, hP] at HBET
      clear hS hP
      go_wp2_with fail
      refine wp_region_lat (by kernel_rfl) (fun b _ => wr.heap.size ≤ b) (fun _ => false) (fun _ _ => True) (fun _ _ _ => True) (by kernel_rfl) (fun k hk => by cases hk) (fun _ _ _ _ _ h => h) (fun _ _ _ _ h _ => h) (fun _ => undef) (fun _ _ => trivial) trivial ?_
      intro T hT hne2 u hu
      refine lx_next 14 (by rfl) (by decide) ?_
      dsimp only [List.take, List.drop]
      repeat (go_big_quiet_step (with_reducible refine Calls.lat hT (HBET.out _)))
      refine wpQuiet_nil ?_
      refine lx_nil ?_
      intro y hs
      have HE5 := Lib.hid (Chg.to_ext (Ext.refl wr) y.chg (by rintro i ⟨_, h⟩; exact h))
      clear hs hu hT hne2 c0 c1 c2 c3 c4 c5 c6 c7 c8 c9 c10 c11 cl hn
      generalize y.world = W5 at *
      clear y
      have HR5 := Lib.hid (HR.out.ext HE5.out)
      have HS5 : Hid (Blk W5 SB #[.bool (sOf ra ra), .bool (sOf ra rb), .bool (sOf ra rc), .bool (sOf rb ra), .bool (sOf rb rb), .bool (sOf rb rc), .bool false, .bool false, .bool false]) := Lib.hid (HS.out.ext HE5.out)
      have HX5 := Lib.hid (HX.out.trans HE5.out)
      clear HR HS HX HE5
      have hw1 : wrap64 (rc.hi.n * ra.lo.d) = rc.hi.n * ra.lo.d := (mul_bd HVC.out.hn HVA.out.ld).2.2
      have hw2 : wrap64 (ra.lo.n * rc.hi.d) = ra.lo.n * rc.hi.d := (mul_bd HVA.out.ln HVC.out.hd).2.2
      have c0 := HR5.out.cell 0 (v := .int .i64 ra.lo.n) rfl
      have c1 := HR5.out.cell 1 (v := .int .i64 ra.lo.d) rfl
      have c2 := HR5.out.cell 2 (v := .int .i64 ra.hi.n) rfl
      have c3 := HR5.out.cell 3 (v := .int .i64 ra.hi.d) rfl
      have c4 := HR5.out.cell 4 (v := .int .i64 rb.lo.n) rfl
      have c5 := HR5.out.cell 5 (v := .int .i64 rb.lo.d) rfl
      have c6 := HR5.out.cell 6 (v := .int .i64 rb.hi.n) rfl
      have c7 := HR5.out.cell 7 (v := .int .i64 rb.hi.d) rfl
      have c8 := HR5.out.cell 8 (v := .int .i64 rc.lo.n) rfl
      have c9 := HR5.out.cell 9 (v := .int .i64 rc.lo.d) rfl
      have c10 := HR5.out.cell 10 (v := .int .i64 rc.hi.n) rfl
      have c11 := HR5.out.cell 11 (v := .int .i64 rc.hi.d) rfl
      have cl := HR5.out.lt
      have hn : ¬ (W5.heap.size ≤ RB) := by have := HR5.out.lt; omega
      cases S
      · cases Pv
        · have hlt := of_decide_eq_false HPP.out
          have hle := Int.not_lt.1 hlt
          go_wp2_with fail
          refine wp_region_lat (by kernel_rfl) (fun b _ => W5.heap.size ≤ b) (fun _ => false) (fun _ _ => True) (fun _ _ _ => True) (by kernel_rfl) (fun k hk => by cases hk) (fun _ _ _ _ _ h => h) (fun _ _ _ _ h _ => h) (fun _ => undef) (fun _ _ => trivial) trivial ?_
          intro T hT hne2 u hu
          refine lx_next 44 (by rfl) (by decide) ?_
          dsimp only [List.take, List.drop]
          repeat (go_big_quiet_step (fail))
          refine wpQuiet_nil ?_
          refine lx_nil ?_
          intro y hs
          have HE6 := Lib.hid (Chg.to_ext (Ext.refl W5) y.chg (by rintro i ⟨_, h⟩; exact h))
          clear hs hu hT hne2 c0 c1 c2 c3 c4 c5 c6 c7 c8 c9 c10 c11 cl hn
          generalize y.world = W6 at *
          clear y
          have HR6 := Lib.hid (HR5.out.ext HE6.out)
          have hS6 : Blk W6 SB #[.bool (sOf ra ra), .bool (sOf ra rb), .bool (sOf ra rc), .bool (sOf rb ra), .bool (sOf rb rb), .bool (sOf rb rc), .bool false, .bool false, .bool false] := HS5.out.ext HE6.out
          have HS6 := Lib.hid hS6
          have HX6 := Lib.hid (HX5.out.trans HE6.out)
          have s0 := hS6.cell 6 (v := .bool false) rfl
          have sf := hS6.frozen 6
          have sl := hS6.lt
          clear HR5 HS5 HX5 HE6 hS6
          go_wp2_with fail
          go_roundw
          case rel =>
            have h0 : Blk (W6.setCell ⟨SB, 6, none⟩ (.bool false)) SB #[.bool (sOf ra ra), .bool (sOf ra rb), .bool (sOf ra rc), .bool (sOf rb ra), .bool (sOf rb rb), .bool (sOf rb rc), .bool (sOf rc ra), .bool false, .bool false] := by rw [HSS.out]; exact HS6.out.set 6 (.bool false)
            have hc := (Chg.refl (fun b => b = SB) W6).setCell (p := ⟨SB, 6, none⟩) (.inr rfl) (.bool false)
            exact ⟨1, by omega, by go_num, h0, HR6.out.chg hc (fun h => HSB.out.2 h.symm), Chg.to_ext HX6.out hc (by rintro i rfl; exact HSB.out.1)⟩
          case measure => simp [intOf]
        · have hlt := of_decide_eq_true HPP.out
          go_wp2_with fail
          refine wp_region_lat (by kernel_rfl) (fun b _ => W5.heap.size ≤ b) (fun _ => false) (fun _ _ => True) (fun _ _ _ => True) (by kernel_rfl) (fun k hk => by cases hk) (fun _ _ _ _ _ h => h) (fun _ _ _ _ h _ => h) (fun _ => undef) (fun _ _ => trivial) trivial ?_
          intro T hT hne2 u hu
          refine lx_next 44 (by rfl) (by decide) ?_
          dsimp only [List.take, List.drop]
          repeat (go_big_quiet_step (fail))
          refine wpQuiet_nil ?_
          refine lx_nil ?_
          intro y hs
          have HE6 := Lib.hid (Chg.to_ext (Ext.refl W5) y.chg (by rintro i ⟨_, h⟩; exact h))
          clear hs hu hT hne2 c0 c1 c2 c3 c4 c5 c6 c7 c8 c9 c10 c11 cl hn
          generalize y.world = W6 at *
          clear y
          have HR6 := Lib.hid (HR5.out.ext HE6.out)
          have hS6 : Blk W6 SB #[.bool (sOf ra ra), .bool (sOf ra rb), .bool (sOf ra rc), .bool (sOf rb ra), .bool (sOf rb rb), .bool (sOf rb rc), .bool false, .bool false, .bool false] := HS5.out.ext HE6.out
          have HS6 := Lib.hid hS6
          have HX6 := Lib.hid (HX5.out.trans HE6.out)
          have s0 := hS6.cell 6 (v := .bool false) rfl
          have sf := hS6.frozen 6
          have sl := hS6.lt
          clear HR5 HS5 HX5 HE6 hS6
          go_wp2_with fail
          go_roundw
          case rel =>
            have h0 : Blk (W6.setCell ⟨SB, 6, none⟩ (.bool false)) SB #[.bool (sOf ra ra), .bool (sOf ra rb), .bool (sOf ra rc), .bool (sOf rb ra), .bool (sOf rb rb), .bool (sOf rb rc), .bool (sOf rc ra), .bool false, .bool false] := by rw [HSS.out]; exact HS6.out.set 6 (.bool false)
            have hc := (Chg.refl (fun b => b = SB) W6).setCell (p := ⟨SB, 6, none⟩) (.inr rfl) (.bool false)
            exact ⟨1, by omega, by go_num, h0, HR6.out.chg hc (fun h => HSB.out.2 h.symm), Chg.to_ext HX6.out hc (by rintro i rfl; exact HSB.out.1)⟩
          case measure => simp [intOf]
      · cases Pv
        · exact absurd (s_p HVC.out HVA.out HSS.out) (by rw [HPP.out]; decide)
        · have hlt := of_decide_eq_true HPP.out
          go_wp2_with fail
          refine wp_region_lat (by kernel_rfl) (fun b _ => W5.heap.size ≤ b) (fun _ => false) (fun _ _ => True) (fun _ _ _ => True) (by kernel_rfl) (fun k hk => by cases hk) (fun _ _ _ _ _ h => h) (fun _ _ _ _ h _ => h) (fun _ => undef) (fun _ _ => trivial) trivial ?_
          intro T hT hne2 u hu
          refine lx_next 44 (by rfl) (by decide) ?_
          dsimp only [List.take, List.drop]
          repeat (go_big_quiet_step (fail))
          refine wpQuiet_nil ?_
          refine lx_nil ?_
          intro y hs
          have HE6 := Lib.hid (Chg.to_ext (Ext.refl W5) y.chg (by rintro i ⟨_, h⟩; exact h))
          clear hs hu hT hne2 c0 c1 c2 c3 c4 c5 c6 c7 c8 c9 c10 c11 cl hn
          generalize y.world = W6 at *
          clear y
          have HR6 := Lib.hid (HR5.out.ext HE6.out)
          have hS6 : Blk W6 SB #[.bool (sOf ra ra), .bool (sOf ra rb), .bool (sOf ra rc), .bool (sOf rb ra), .bool (sOf rb rb), .bool (sOf rb rc), .bool false, .bool false, .bool false] := HS5.out.ext HE6.out
          have HS6 := Lib.hid hS6
          have HX6 := Lib.hid (HX5.out.trans HE6.out)
          have s0 := hS6.cell 6 (v := .bool false) rfl
          have sf := hS6.frozen 6
          have sl := hS6.lt
          clear HR5 HS5 HX5 HE6 hS6
          go_wp2_with fail
          go_roundw
          case rel =>
            have h0 : Blk (W6.setCell ⟨SB, 6, none⟩ (.bool true)) SB #[.bool (sOf ra ra), .bool (sOf ra rb), .bool (sOf ra rc), .bool (sOf rb ra), .bool (sOf rb rb), .bool (sOf rb rc), .bool (sOf rc ra), .bool false, .bool false] := by rw [HSS.out]; exact HS6.out.set 6 (.bool true)
            have hc := (Chg.refl (fun b => b = SB) W6).setCell (p := ⟨SB, 6, none⟩) (.inr rfl) (.bool true)
            exact ⟨1, by omega, by go_num, h0, HR6.out.chg hc (fun h => HSB.out.2 h.symm), Chg.to_ext HX6.out hc (by rintro i rfl; exact HSB.out.1)⟩
          case measure => simp [intOf]
    · rw [show ((1 : Nat) : Int) = 1 from rfl]
      have c0 := HR.out.cell 0 (v := .int .i64 ra.lo.n) rfl
      have c1 := HR.out.cell 1 (v := .int .i64 ra.lo.d) rfl
      have c2 := HR.out.cell 2 (v := .int .i64 ra.hi.n) rfl
      have c3 := HR.out.cell 3 (v := .int .i64 ra.hi.d) rfl
      have c4 := HR.out.cell 4 (v := .int .i64 rb.lo.n) rfl
      have c5 := HR.out.cell 5 (v := .int .i64 rb.lo.d) rfl
      have c6 := HR.out.cell 6 (v := .int .i64 rb.hi.n) rfl
      have c7 := HR.out.cell 7 (v := .int .i64 rb.hi.d) rfl
      have c8 := HR.out.cell 8 (v := .int .i64 rc.lo.n) rfl
      have c9 := HR.out.cell 9 (v := .int .i64 rc.lo.d) rfl
      have c10 := HR.out.cell 10 (v := .int .i64 rc.hi.n) rfl
      have c11 := HR.out.cell 11 (v := .int .i64 rc.hi.d) rfl
      have cl := HR.out.lt
      have hn : ¬ (wr.heap.size ≤ RB) := by have := HR.out.lt; omega
      obtain ⟨S, hS⟩ : ∃ y, sOf rc rb = y := ⟨_, rfl⟩
      obtain ⟨Pv, hP⟩ : ∃ y, pOf rc rb = y := ⟨_, rfl⟩
      have HSS := Lib.hid hS
      have HPP := Lib.hid hP
      have HBET := Lib.hid (fun W => better_rng rc rb HVC.out HVB.out W)
      rw [hS, hP] at HBET
      clear hS hP
      go_wp2_with fail
      refine wp_region_lat (by kernel_rfl) (fun b _ => wr.heap.size ≤ b) (fun _ => false) (fun _ _ => True) (fun _ _ _ => True) (by kernel_rfl) (fun k hk => by cases hk) (fun _ _ _ _ _ h => h) (fun _ _ _ _ h _ => h) (fun _ => undef) (fun _ _ => trivial) trivial ?_
      intro T hT hne2 u hu
      refine lx_next 14 (by rfl) (by decide) ?_
      dsimp only [List.take, List.drop]
      repeat (go_big_quiet_step (with_reducible refine Calls.lat hT (HBET.out _)))
      refine wpQuiet_nil ?_
      refine lx_nil ?_
      intro y hs
      have HE5 := Lib.hid (Chg.to_ext (Ext.refl wr) y.chg (by rintro i ⟨_, h⟩; exact h))
      clear hs hu hT hne2 c0 c1 c2 c3 c4 c5 c6 c7 c8 c9 c10 c11 cl hn
      generalize y.world = W5 at *
      clear y
      have HR5 := Lib.hid (HR.out.ext HE5.out)
      have HS5 : Hid (Blk W5 SB #[.bool (sOf ra ra), .bool (sOf ra rb), .bool (sOf ra rc), .bool (sOf rb ra), .bool (sOf rb rb), .bool (sOf rb rc), .bool (sOf rc ra), .bool false, .bool false]) := Lib.hid (HS.out.ext HE5.out)
      have HX5 := Lib.hid (HX.out.trans HE5.out)
      clear HR HS HX HE5
      have hw1 : wrap64 (rc.hi.n * rb.lo.d) = rc.hi.n * rb.lo.d := (mul_bd HVC.out.hn HVB.out.ld).2.2
      have hw2 : wrap64 (rb.lo.n * rc.hi.d) = rb.lo.n * rc.hi.d := (mul_bd HVB.out.ln HVC.out.hd).2.2
      have c0 := HR5.out.cell 0 (v := .int .i64 ra.lo.n) rfl
      have c1 := HR5.out.cell 1 (v := .int .i64 ra.lo.d) rfl
      have c2 := HR5.out.cell 2 (v := .int .i64 ra.hi.n) rfl
      have c3 := HR5.out.cell 3 (v := .int .i64 ra.hi.d) rfl
      have c4 := HR5.out.cell 4 (v := .int .i64 rb.lo.n) rfl
      have c5 := HR5.out.cell 5 (v := .int .i64 rb.lo.d) rfl
      have c6 := HR5.out.cell 6 (v := .int .i64 rb.hi.n) rfl
      have c7 := HR5.out.cell 7 (v := .int .i64 rb.hi.d) rfl
      have c8 := HR5.out.cell 8 (v := .int .i64 rc.lo.n) rfl
      have c9 := HR5.out.cell 9 (v := .int .i64 rc.lo.d) rfl
      have c10 := HR5.out.cell 10 (v := .int .i64 rc.hi.n) rfl
      have c11 := HR5.out.cell 11 (v := .int .i64 rc.hi.d) rfl
      have cl := HR5.out.lt
      have hn : ¬ (W5.heap.size ≤ RB) := by have := HR5.out.lt; omega
      cases S
      · cases Pv
        · have hlt := of_decide_eq_false HPP.out
          have hle := Int.not_lt.1 hlt
          go_wp2_with fail
          refine wp_region_lat (by kernel_rfl) (fun b _ => W5.heap.size ≤ b) (fun _ => false) (fun _ _ => True) (fun _ _ _ => True) (by kernel_rfl) (fun k hk => by cases hk) (fun _ _ _ _ _ h => h) (fun _ _ _ _ h _ => h) (fun _ => undef) (fun _ _ => trivial) trivial ?_
          intro T hT hne2 u hu
          refine lx_next 44 (by rfl) (by decide) ?_
          dsimp only [List.take, List.drop]
          repeat (go_big_quiet_step (fail))
          refine wpQuiet_nil ?_
          refine lx_nil ?_
          intro y hs
          have HE6 := Lib.hid (Chg.to_ext (Ext.refl W5) y.chg (by rintro i ⟨_, h⟩; exact h))
          clear hs hu hT hne2 c0 c1 c2 c3 c4 c5 c6 c7 c8 c9 c10 c11 cl hn
          generalize y.world = W6 at *
          clear y
          have HR6 := Lib.hid (HR5.out.ext HE6.out)
          have hS6 : Blk W6 SB #[.bool (sOf ra ra), .bool (sOf ra rb), .bool (sOf ra rc), .bool (sOf rb ra), .bool (sOf rb rb), .bool (sOf rb rc), .bool (sOf rc ra), .bool false, .bool false] := HS5.out.ext HE6.out
          have HS6 := Lib.hid hS6
          have HX6 := Lib.hid (HX5.out.trans HE6.out)
          have s0 := hS6.cell 7 (v := .bool false) rfl
          have sf := hS6.frozen 7
          have sl := hS6.lt
          clear HR5 HS5 HX5 HE6 hS6
          go_wp2_with fail
          go_roundw
          case rel =>
            have h0 : Blk (W6.setCell ⟨SB, 7, none⟩ (.bool false)) SB #[.bool (sOf ra ra), .bool (sOf ra rb), .bool (sOf ra rc), .bool (sOf rb ra), .bool (sOf rb rb), .bool (sOf rb rc), .bool (sOf rc ra), .bool (sOf rc rb), .bool false] := by rw [HSS.out]; exact HS6.out.set 7 (.bool false)
            have hc := (Chg.refl (fun b => b = SB) W6).setCell (p := ⟨SB, 7, none⟩) (.inr rfl) (.bool false)
            exact ⟨2, by omega, by go_num, h0, HR6.out.chg hc (fun h => HSB.out.2 h.symm), Chg.to_ext HX6.out hc (by rintro i rfl; exact HSB.out.1)⟩
          case measure => simp [intOf]
        · have hlt := of_decide_eq_true HPP.out
          go_wp2_with fail
          refine wp_region_lat (by kernel_rfl) (fun b _ => W5.heap.size ≤ b) (fun _ => false) (fun _ _ => True) (fun _ _ _ => True) (by kernel_rfl) (fun k hk => by cases hk) (fun _ _ _ _ _ h => h) (fun _ _ _ _ h _ => h) (fun _ => undef) (fun _ _ => trivial) trivial ?_
          intro T hT hne2 u hu
          refine lx_next 44 (by rfl) (by decide) ?_
          dsimp only [List.take, List.drop]
          repeat (go_big_quiet_step (fail))
          refine wpQuiet_nil ?_
          refine lx_nil ?_
          intro y hs
          have HE6 := Lib.hid (Chg.to_ext (Ext.refl W5) y.chg (by rintro i ⟨_, h⟩; exact h))
          clear hs hu hT hne2 c0 c1 c2 c3 c4 c5 c6 c7 c8 c9 c10 c11 cl hn
          generalize y.world = W6 at *
          clear y
          have HR6 := Lib.hid (HR5.out.ext HE6.out)
          have hS6 : Blk W6 SB #[.bool (sOf ra ra), .bool (sOf ra rb), .bool (sOf ra rc), .bool (sOf rb ra), .bool (sOf rb rb), .bool (sOf rb rc), .bool (sOf rc ra), .bool false, .bool false] := HS5.out.ext HE6.out
          have HS6 := Lib.hid hS6
          have HX6 := Lib.hid (HX5.out.trans HE6.out)
          have s0 := hS6.cell 7 (v := .bool false) rfl
          have sf := hS6.frozen 7
          have sl := hS6.lt
          clear HR5 HS5 HX5 HE6 hS6
          go_wp2_with fail
          go_roundw
          case rel =>
            have h0 : Blk (W6.setCell ⟨SB, 7, none⟩ (.bool false)) SB #[.bool (sOf ra ra), .bool (sOf ra rb), .bool (sOf ra rc), .bool (sOf rb ra), .bool (sOf rb rb), .bool (sOf rb rc), .bool (sOf rc ra), .bool (sOf rc rb), .bool false] := by rw [HSS.out]; exact HS6.out.set 7 (.bool false)
            have hc := (Chg.refl (fun b => b = SB) W6).setCell (p := ⟨SB, 7, none⟩) (.inr rfl) (.bool false)
            exact ⟨2, by omega, by go_num, h0, HR6.out.chg hc (fun h => HSB.out.2 h.symm), Chg.to_ext HX6.out hc (by rintro i rfl; exact HSB.out.1)⟩
          case measure => simp [intOf]
      · cases Pv
        · exact absurd (s_p HVC.out HVB.out HSS.out) (by rw [HPP.out]; decide)
        · have hlt := of_decide_eq_true HPP.out
          go_wp2_with fail
          refine wp_region_lat (by kernel_rfl) (fun b _ => W5.heap.size ≤ b) (fun _ => false) (fun _ _ => True) (fun _ _ _ => True) (by kernel_rfl) (fun k hk => by cases hk) (fun _ _ _ _ _ h => h) (fun _ _ _ _ h _ => h) (fun _ => undef) (fun _ _ => trivial) trivial ?_
          intro T hT hne2 u hu
          refine lx_next 44 (by rfl) (by decide) ?_
          dsimp only [List.take, List.drop]
          repeat (go_big_quiet_step (fail))
          refine wpQuiet_nil ?_
          refine lx_nil ?_
          intro y hs
          have HE6 := Lib.hid (Chg.to_ext (Ext.refl W5) y.chg (by rintro i ⟨_, h⟩; exact h))
          clear hs hu hT hne2 c0 c1 c2 c3 c4 c5 c6 c7 c8 c9 c10 c11 cl hn
          generalize y.world = W6 at *
          clear y
          have HR6 := Lib.hid (HR5.out.ext HE6.out)
          have hS6 : Blk W6 SB #[.bool (sOf ra ra), .bool (sOf ra rb), .bool (sOf ra rc), .bool (sOf rb ra), .bool (sOf rb rb), .bool (sOf rb rc), .bool (sOf rc ra), .bool false, .bool false] := HS5.out.ext HE6.out
          have HS6 := Lib.hid hS6
          have HX6 := Lib.hid (HX5.out.trans HE6.out)
          have s0 := hS6.cell 7 (v := .bool false) rfl
          have sf := hS6.frozen 7
          have sl := hS6.lt
          clear HR5 HS5 HX5 HE6 hS6
          go_wp2_with fail
          go_roundw
          case rel =>
            have h0 : Blk (W6.setCell ⟨SB, 7, none⟩ (.bool true)) SB #[.bool (sOf ra ra), .bool (sOf ra rb), .bool (sOf ra rc), .bool (sOf rb ra), .bool (sOf rb rb), .bool (sOf rb rc), .bool (sOf rc ra), .bool (sOf rc rb), .bool false] := by rw [HSS.out]; exact HS6.out.set 7 (.bool true)
            have hc := (Chg.refl (fun b => b = SB) W6).setCell (p := ⟨SB, 7, none⟩) (.inr rfl) (.bool true)
            exact ⟨2, by omega, by go_num, h0, HR6.out.chg hc (fun h => HSB.out.2 h.symm), Chg.to_ext HX6.out hc (by rintro i rfl; exact HSB.out.1)⟩
          case measure => simp [intOf]
    · rw [show ((2 : Nat) : Int) = 2 from rfl]
      have c0 := HR.out.cell 0 (v := .int .i64 ra.lo.n) rfl
      have c1 := HR.out.cell 1 (v := .int .i64 ra.lo.d) rfl
      have c2 := HR.out.cell 2 (v := .int .i64 ra.hi.n) rfl
      have c3 := HR.out.cell 3 (v := .int .i64 ra.hi.d) rfl
      have c4 := HR.out.cell 4 (v := .int .i64 rb.lo.n) rfl
      have c5 := HR.out.cell 5 (v := .int .i64 rb.lo.d) rfl
      have c6 := HR.out.cell 6 (v := .int .i64 rb.hi.n) rfl
      have c7 := HR.out.cell 7 (v := .int .i64 rb.hi.d) rfl
      have c8 := HR.out.cell 8 (v := .int .i64 rc.lo.n) rfl
      have c9 := HR.out.cell 9 (v := .int .i64 rc.lo.d) rfl
      have c10 := HR.out.cell 10 (v := .int .i64 rc.hi.n) rfl
      have c11 := HR.out.cell 11 (v := .int .i64 rc.hi.d) rfl
      have cl := HR.out.lt
      have hn : ¬ (wr.heap.size ≤ RB) := by have := HR.out.lt; omega
      obtain ⟨S, hS⟩ : ∃ y, sOf rc rc = y := ⟨_, rfl⟩
      obtain ⟨Pv, hP⟩ : ∃ y, pOf rc rc = y := ⟨_, rfl⟩
      have HSS := Lib.hid hS
      have HPP := Lib.hid hP
      have HBET := Lib.hid (fun W => better_rng rc rc HVC.out HVC.out W)
      rw [hS, hP] at HBET
      clear hS hP
      go_wp2_with fail
      refine wp_region_lat (by kernel_rfl) (fun b _ => wr.heap.size ≤ b) (fun _ => false) (fun _ _ => True) (fun _ _ _ => True) (by kernel_rfl) (fun k hk => by cases hk) (fun _ _ _ _ _ h => h) (fun _ _ _ _ h _ => h) (fun _ => undef) (fun _ _ => trivial) trivial ?_
      intro T hT hne2 u hu
      refine lx_next 14 (by rfl) (by decide) ?_
      dsimp only [List.take, List.drop]
      repeat (go_big_quiet_step (with_reducible refine Calls.lat hT (HBET.out _)))
      refine wpQuiet_nil ?_
      refine lx_nil ?_
      intro y hs
      have HE5 := Lib.hid (Chg.to_ext (Ext.refl wr) y.chg (by rintro i ⟨_, h⟩; exact h))
      clear hs hu hT hne2 c0 c1 c2 c3 c4 c5 c6 c7 c8 c9 c10 c11 cl hn
      generalize y.world = W5 at *
      clear y
      have HR5 := Lib.hid (HR.out.ext HE5.out)
      have HS5 : Hid (Blk W5 SB #[.bool (sOf ra ra), .bool (sOf ra rb), .bool (sOf ra rc), .bool (sOf rb ra), .bool (sOf rb rb), .bool (sOf rb rc), .bool (sOf rc ra), .bool (sOf rc rb), .bool false]) := Lib.hid (HS.out.ext HE5.out)
      have HX5 := Lib.hid (HX.out.trans HE5.out)
      clear HR HS HX HE5
      have hw1 : wrap64 (rc.hi.n * rc.lo.d) = rc.hi.n * rc.lo.d := (mul_bd HVC.out.hn HVC.out.ld).2.2
      have hw2 : wrap64 (rc.lo.n * rc.hi.d) = rc.lo.n * rc.hi.d := (mul_bd HVC.out.ln HVC.out.hd).2.2
      have c0 := HR5.out.cell 0 (v := .int .i64 ra.lo.n) rfl
      have c1 := HR5.out.cell 1 (v := .int .i64 ra.lo.d) rfl
      have c2 := HR5.out.cell 2 (v := .int .i64 ra.hi.n) rfl
      have c3 := HR5.out.cell 3 (v := .int .i64 ra.hi.d) rfl
      have c4 := HR5.out.cell 4 (v := .int .i64 rb.lo.n) rfl
      have c5 := HR5.out.cell 5 (v := .int .i64 rb.lo.d) rfl
      have c6 := HR5.out.cell 6 (v := .int .i64 rb.hi.n) rfl
      have c7 := HR5.out.cell 7 (v := .int .i64 rb.hi.d) rfl
      have c8 := HR5.out.cell 8 (v := .int .i64 rc.lo.n) rfl
      have c9 := HR5.out.cell 9 (v := .int .i64 rc.lo.d) rfl
      have c10 := HR5.out.cell 10 (v := .int .i64 rc.hi.n) rfl
      have c11 := HR5.out.cell 11 (v := .int .i64 rc.hi.d) rfl
      have cl := HR5.out.lt
      have hn : ¬ (W5.heap.size ≤ RB) := by have := HR5.out.lt; omega
      obtain rfl : S = false := by rw [← HSS.out]; exact s_same HVC.out
      cases Pv
      · have hlt := of_decide_eq_false HPP.out
        have hle := Int.not_lt.1 hlt
        go_wp2_with fail
        refine wp_region_lat (by kernel_rfl) (fun b _ => W5.heap.size ≤ b) (fun _ => false) (fun _ _ => True) (fun _ _ _ => True) (by kernel_rfl) (fun k hk => by cases hk) (fun _ _ _ _ _ h => h) (fun _ _ _ _ h _ => h) (fun _ => undef) (fun _ _ => trivial) trivial ?_
        intro T hT hne2 u hu
        refine lx_next 44 (by rfl) (by decide) ?_
        dsimp only [List.take, List.drop]
        repeat (go_big_quiet_step (fail))
        refine wpQuiet_nil ?_
        refine lx_nil ?_
        intro y hs
        have HE6 := Lib.hid (Chg.to_ext (Ext.refl W5) y.chg (by rintro i ⟨_, h⟩; exact h))
        clear hs hu hT hne2 c0 c1 c2 c3 c4 c5 c6 c7 c8 c9 c10 c11 cl hn
        generalize y.world = W6 at *
        clear y
        have HR6 := Lib.hid (HR5.out.ext HE6.out)
        have hS6 : Blk W6 SB #[.bool (sOf ra ra), .bool (sOf ra rb), .bool (sOf ra rc), .bool (sOf rb ra), .bool (sOf rb rb), .bool (sOf rb rc), .bool (sOf rc ra), .bool (sOf rc rb), .bool false] := HS5.out.ext HE6.out
        have HS6 := Lib.hid hS6
        have HX6 := Lib.hid (HX5.out.trans HE6.out)
        have s0 := hS6.cell 8 (v := .bool false) rfl
        have sf := hS6.frozen 8
        have sl := hS6.lt
        clear HR5 HS5 HX5 HE6 hS6
        go_wp2_with fail
        go_roundw
        case rel =>
          have h0 : Blk (W6.setCell ⟨SB, 8, none⟩ (.bool false)) SB #[.bool (sOf ra ra), .bool (sOf ra rb), .bool (sOf ra rc), .bool (sOf rb ra), .bool (sOf rb rb), .bool (sOf rb rc), .bool (sOf rc ra), .bool (sOf rc rb), .bool (sOf rc rc)] := by rw [HSS.out]; exact HS6.out.set 8 (.bool false)
          have hc := (Chg.refl (fun b => b = SB) W6).setCell (p := ⟨SB, 8, none⟩) (.inr rfl) (.bool false)
          exact ⟨3, by omega, by go_num, h0, HR6.out.chg hc (fun h => HSB.out.2 h.symm), Chg.to_ext HX6.out hc (by rintro i rfl; exact HSB.out.1)⟩
        case measure => simp [intOf]
      · have hlt := of_decide_eq_true HPP.out
        go_wp2_with fail
        refine wp_region_lat (by kernel_rfl) (fun b _ => W5.heap.size ≤ b) (fun _ => false) (fun _ _ => True) (fun _ _ _ => True) (by kernel_rfl) (fun k hk => by cases hk) (fun _ _ _ _ _ h => h) (fun _ _ _ _ h _ => h) (fun _ => undef) (fun _ _ => trivial) trivial ?_
        intro T hT hne2 u hu
        refine lx_next 44 (by rfl) (by decide) ?_
        dsimp only [List.take, List.drop]
        repeat (go_big_quiet_step (fail))
        refine wpQuiet_nil ?_
        refine lx_nil ?_
        intro y hs
        have HE6 := Lib.hid (Chg.to_ext (Ext.refl W5) y.chg (by rintro i ⟨_, h⟩; exact h))
        clear hs hu hT hne2 c0 c1 c2 c3 c4 c5 c6 c7 c8 c9 c10 c11 cl hn
        generalize y.world = W6 at *
        clear y
        have HR6 := Lib.hid (HR5.out.ext HE6.out)
        have hS6 : Blk W6 SB #[.bool (sOf ra ra), .bool (sOf ra rb), .bool (sOf ra rc), .bool (sOf rb ra), .bool (sOf rb rb), .bool (sOf rb rc), .bool (sOf rc ra), .bool (sOf rc rb), .bool false] := HS5.out.ext HE6.out
        have HS6 := Lib.hid hS6
        have HX6 := Lib.hid (HX5.out.trans HE6.out)
        have s0 := hS6.cell 8 (v := .bool false) rfl
        have sf := hS6.frozen 8
        have sl := hS6.lt
        clear HR5 HS5 HX5 HE6 hS6
        go_wp2_with fail
        go_roundw
        case rel =>
          have h0 : Blk (W6.setCell ⟨SB, 8, none⟩ (.bool false)) SB #[.bool (sOf ra ra), .bool (sOf ra rb), .bool (sOf ra rc), .bool (sOf rb ra), .bool (sOf rb rb), .bool (sOf rb rc), .bool (sOf rc ra), .bool (sOf rc rb), .bool (sOf rc rc)] := by rw [HSS.out]; exact HS6.out.set 8 (.bool false)
          have hc := (Chg.refl (fun b => b = SB) W6).setCell (p := ⟨SB, 8, none⟩) (.inr rfl) (.bool false)
          exact ⟨3, by omega, by go_num, h0, HR6.out.chg hc (fun h => HSB.out.2 h.symm), Chg.to_ext HX6.out hc (by rintro i rfl; exact HSB.out.1)⟩
        case measure => simp [intOf]
    · rw [show ((3 : Nat) : Int) = 3 from rfl]
      go_wp2_with fail
      exact HQ.out _ _ _ _ _ _ _ _ _ _ _ _ _ _ _ _ _ _ _ _ _ _ _ _ _ _ _ _ _ _ _ _ _ _ _ _ _ _ _ _ _ _ _ _ _ _ _ _ _ _ _ _ _ _ _ _ _ _ _ _ _ _ _ _ _ _ _ _ _ _ HS.out HR.out HX.out
end Go.Proofs.Ytmopadnkjlodnaa
