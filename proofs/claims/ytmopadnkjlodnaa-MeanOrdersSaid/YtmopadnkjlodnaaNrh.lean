/-
  MeanOrders: from the two ranges of one number on.
-/
import Derived.Test.YtmopadnkjlodnaaNrb
import Derived.Test.YtmopadnkjlodnaaNrc
import Derived.Test.YtmopadnkjlodnaaNrd
import Derived.Test.YtmopadnkjlodnaaNre
import Derived.Test.YtmopadnkjlodnaaNrf
import Derived.Test.YtmopadnkjlodnaaNrg
namespace Go.Proofs.Ytmopadnkjlodnaa
open Go.RowKit Go.BigFrame
attribute [local go_sem] Later.cell Later.frozen Lat.cell Lat.frozen
theorem RngV.low {r : Ran} (h : RngV r) : RngV ⟨r.lo, r.lo⟩ := ⟨h.ln, h.ld, h.ln, h.ld, Int.le_refl _⟩
set_option maxRecDepth 100000 in
set_option maxHeartbeats 8000000 in
theorem ord_end (c : Code) (hc : codeFrom 37 (Try.f10.body.getD .skip) = some c) (HK : Hid Knows) (ra rb : Ran) (OB TB : Nat) (Sx : Bool) (w W0 : World) (HVA : Hid (RngV ra)) (HVB : Hid (RngV rb)) {s0 s1 s2 s3 s4 s5 s6 s7 s8 s9 s10 s11 s12 s18 s19 s20 s21 s22 s23 s24 s25 s26 s27 s28 s29 s30 s31 s32 s33 s34 s35 s36 s37 s38 s39 s40 s41 s42 s43 s44 s45 s46 s47 s48 s49 s50 s51 s52 s53 s54 s55 s56 s57 s58 s59 s60 s61 s62 s63 s64 s65 s66 s67 s68 s69 s70 s71 s72 s73 s74 s75 s76 s77 s78 s79 s80 s81 s82 s83 s84 s85 s86 s87 s88 s89 s90 s91 s92 s93 s94 s95 s96 s97 s98 s99 s100 s101 s102 s103 s104 s105 s106 s107 s108 s109 s110 s111 s112 s113 s114 s115 s116 s117 s118 s119 s120 s121 s122 s123 s124 s125 s126 s127 s128 s129 s130 s131 s132 s133 s134 s135 s136 s137 s138 s139 s140 s141 s142 s143 s144 s145 s146 s147 s148 s149 s150 s151 s152 s153 s154 s155 s156 s157 s158 s159 s160 s161 s162 s163 s164 s165 s166 s167 s168 s169 s170 s171 s172 s173 s174 s175 s176 s177 s178 s179 s180 s181 s182 s183 s184 s185 s186 s187 s188 s189 s190 s191 s192 s193 s194 s195 s196 s197 s198 s199 s200 s201 s202 s203 s204 s205 s206 s207 s208 s209 s210 s211 s212 s213 s214 s215 s216 s217 s218 s219 s220 s221 s222 s223 s224 s225 s226 s227 s228 s229 s230 s231 s232 s233 s234 s235 s236 s237 s238 s239 s240 s241 s242 s243 s244 s245 s246 s247 s248 s249 s250 s251 s252 s253 s254 s255 s256 s257 : Value}
    (HO : Hid (Blk W0 OB #[.int .i64 ra.lo.n, .int .i64 ra.lo.d, .int .i64 ra.lo.n, .int .i64 ra.lo.d])) (HT : Hid (Blk W0 TB #[.int .i64 rb.lo.n, .int .i64 rb.lo.d, .int .i64 rb.lo.n, .int .i64 rb.lo.d])) (HSX : Hid (decide (rb.lo.n * ra.lo.d < ra.lo.n * rb.lo.d) = Sx)) (HX : Hid (Ext w W0)) :
    c.wp Try.prog (bodyPost Try.prog Try.f10 fun e w' => e = .returned (.bool true) ∧ Ext w w') { tmps := #[s0, s1, s2, s3, s4, s5, s6, s7, s8, s9, s10, s11, s12, .pointer (some ⟨OB, 0, none⟩), .pointer (some ⟨TB, 0, none⟩), .bool Sx, .bool Sx, .int .i64 0, s18, s19, s20, s21, s22, s23, s24, s25, s26, s27, s28, s29, s30, s31, s32, s33, s34, s35, s36, s37, s38, s39, s40, s41, s42, s43, s44, s45, s46, s47, s48, s49, s50, s51, s52, s53, s54, s55, s56, s57, s58, s59, s60, s61, s62, s63, s64, s65, s66, s67, s68, s69, s70, s71, s72, s73, s74, s75, s76, s77, s78, s79, s80, s81, s82, s83, s84, s85, s86, s87, s88, s89, s90, s91, s92, s93, s94, s95, s96, s97, s98, s99, s100, s101, s102, s103, s104, s105, s106, s107, s108, s109, s110, s111, s112, s113, s114, s115, s116, s117, s118, s119, s120, s121, s122, s123, s124, s125, s126, s127, s128, s129, s130, s131, s132, s133, s134, s135, s136, s137, s138, s139, s140, s141, s142, s143, s144, s145, s146, s147, s148, s149, s150, s151, s152, s153, s154, s155, s156, s157, s158, s159, s160, s161, s162, s163, s164, s165, s166, s167, s168, s169, s170, s171, s172, s173, s174, s175, s176, s177, s178, s179, s180, s181, s182, s183, s184, s185, s186, s187, s188, s189, s190, s191, s192, s193, s194, s195, s196, s197, s198, s199, s200, s201, s202, s203, s204, s205, s206, s207, s208, s209, s210, s211, s212, s213, s214, s215, s216, s217, s218, s219, s220, s221, s222, s223, s224, s225, s226, s227, s228, s229, s230, s231, s232, s233, s234, s235, s236, s237, s238, s239, s240, s241, s242, s243, s244, s245, s246, s247, s248, s249, s250, s251, s252, s253, s254, s255, s256, s257], defers := [] } W0 := by
  simp only [Try.f10, Option.getD_some, codeFrom, ↓reduceIte, Nat.reduceEqDiff, Option.some.injEq] at hc
  subst hc
  dsimp only
  have o0 := HO.out.cell 0 (v := .int .i64 ra.lo.n) rfl
  have o1 := HO.out.cell 1 (v := .int .i64 ra.lo.d) rfl
  have t0 := HT.out.cell 0 (v := .int .i64 rb.lo.n) rfl
  have t1 := HT.out.cell 1 (v := .int .i64 rb.lo.d) rfl
  have hw1 : wrap64 (ra.lo.n * rb.lo.d) = ra.lo.n * rb.lo.d := (mul_bd HVA.out.ln HVB.out.ld).2.2
  have hw2 : wrap64 (rb.lo.n * ra.lo.d) = rb.lo.n * ra.lo.d := (mul_bd HVB.out.ln HVA.out.ld).2.2
  cases Sx
  · have hlt := of_decide_eq_false HSX.out
    have hle := Int.not_lt.1 hlt
    go_wp2_with fail
    refine (HK.out _).mono ?_
    rintro e w5 ⟨rfl, hx⟩
    go_wp2_with fail
    go_ret
    exact ⟨rfl, HX.out.trans hx⟩
  · have hlt := of_decide_eq_true HSX.out
    go_wp2_with fail
    refine (HK.out _).mono ?_
    rintro e w5 ⟨rfl, hx⟩
    go_wp2_with fail
    go_ret
    exact ⟨rfl, HX.out.trans hx⟩
set_option maxRecDepth 100000 in
set_option maxHeartbeats 8000000 in
theorem ord_rest (c : Code) (hc : codeFrom 20 (Try.f10.body.getD .skip) = some c) (HK : Hid Knows) (ra rb rc : Ran) (RB SB : Nat) (w W0 : World) (HVA : Hid (RngV ra)) (HVB : Hid (RngV rb)) (HVC : Hid (RngV rc)) {s0 s1 s2 s4 s5 s6 s8 s9 s10 s11 s12 s13 s14 s15 s16 s17 s18 s19 s20 s21 s22 s23 s24 s25 s26 s27 s28 s29 s30 s31 s32 s33 s34 s35 s36 s37 s38 s39 s40 s41 s42 s43 s44 s45 s46 s47 s48 s49 s50 s51 s52 s53 s54 s55 s56 s57 s58 s59 s60 s61 s62 s63 s64 s65 s66 s67 s68 s69 s70 s71 s72 s73 s74 s75 s76 s77 s78 s79 s80 s81 s82 s83 s84 s85 s86 s87 s88 s89 s90 s91 s92 s93 s94 s95 s96 s97 s98 s99 s100 s101 s102 s103 s104 s105 s106 s107 s108 s109 s110 s111 s112 s113 s114 s115 s116 s117 s118 s119 s120 s121 s122 s123 s124 s125 s126 s127 s128 s129 s130 s131 s132 s133 s134 s135 s136 s137 s138 s139 s140 s141 s142 s143 s144 s145 s146 s147 s148 s149 s150 s151 s152 s153 s154 s155 s156 s157 s158 s159 s160 s161 s162 s163 s164 s165 s166 s167 s168 s169 s170 s171 s172 s173 s174 s175 s176 s177 s178 s179 s180 s181 s182 s183 s184 s185 s186 s187 s188 s189 s190 s191 s192 s193 s194 s195 s196 s197 s198 s199 s200 s201 s202 s203 s204 s205 s206 s207 s208 s209 s210 s211 s212 s213 s214 s215 s216 s217 s218 s219 s220 s221 s222 s223 s224 s225 s226 s227 s228 s229 s230 s231 s232 s233 s234 s235 s236 s237 s238 s239 s240 s241 s242 s243 s244 s245 s246 s247 s248 s249 s250 s251 s252 s253 s254 s255 s256 s257 : Value}
    (HS : Hid (Blk W0 SB (matC 9 ra rb rc))) (HR : Hid (Blk W0 RB #[.int .i64 ra.lo.n, .int .i64 ra.lo.d, .int .i64 ra.hi.n, .int .i64 ra.hi.d, .int .i64 rb.lo.n, .int .i64 rb.lo.d, .int .i64 rb.hi.n, .int .i64 rb.hi.d, .int .i64 rc.lo.n, .int .i64 rc.lo.d, .int .i64 rc.hi.n, .int .i64 rc.hi.d])) (HX : Hid (Ext w W0)) :
    c.wp Try.prog (bodyPost Try.prog Try.f10 fun e w' => e = .returned (.bool true) ∧ Ext w w') { tmps := #[s0, s1, s2, .pointer (some ⟨RB, 0, none⟩), s4, s5, s6, .pointer (some ⟨SB, 0, none⟩), s8, s9, s10, s11, s12, s13, s14, s15, s16, s17, s18, s19, s20, s21, s22, s23, s24, s25, s26, s27, s28, s29, s30, s31, s32, s33, s34, s35, s36, s37, s38, s39, s40, s41, s42, s43, s44, s45, s46, s47, s48, s49, s50, s51, s52, s53, s54, s55, s56, s57, s58, s59, s60, s61, s62, s63, s64, s65, s66, s67, s68, s69, s70, s71, s72, s73, s74, s75, s76, s77, s78, s79, s80, s81, s82, s83, s84, s85, s86, s87, s88, s89, s90, s91, s92, s93, s94, s95, s96, s97, s98, s99, s100, s101, s102, s103, s104, s105, s106, s107, s108, s109, s110, s111, s112, s113, s114, s115, s116, s117, s118, s119, s120, s121, s122, s123, s124, s125, s126, s127, s128, s129, s130, s131, s132, s133, s134, s135, s136, s137, s138, s139, s140, s141, s142, s143, s144, s145, s146, s147, s148, s149, s150, s151, s152, s153, s154, s155, s156, s157, s158, s159, s160, s161, s162, s163, s164, s165, s166, s167, s168, s169, s170, s171, s172, s173, s174, s175, s176, s177, s178, s179, s180, s181, s182, s183, s184, s185, s186, s187, s188, s189, s190, s191, s192, s193, s194, s195, s196, s197, s198, s199, s200, s201, s202, s203, s204, s205, s206, s207, s208, s209, s210, s211, s212, s213, s214, s215, s216, s217, s218, s219, s220, s221, s222, s223, s224, s225, s226, s227, s228, s229, s230, s231, s232, s233, s234, s235, s236, s237, s238, s239, s240, s241, s242, s243, s244, s245, s246, s247, s248, s249, s250, s251, s252, s253, s254, s255, s256, s257], defers := [] } W0 := by
  simp only [Try.f10, Option.getD_some, codeFrom, ↓reduceIte, Nat.reduceEqDiff, Option.some.injEq] at hc
  subst hc
  dsimp only
  have c0 := HR.out.cell 0 (v := .int .i64 ra.lo.n) rfl
  have c1 := HR.out.cell 1 (v := .int .i64 ra.lo.d) rfl
  have c4 := HR.out.cell 4 (v := .int .i64 rb.lo.n) rfl
  have c5 := HR.out.cell 5 (v := .int .i64 rb.lo.d) rfl
  have hs : Ext W0 (W0.alloc (.cells #[.int .i64 ra.lo.n, .int .i64 ra.lo.d, .int .i64 ra.lo.n, .int .i64 ra.lo.d] 59)) := (Ext.refl W0).alloc _
  have d0 := (HR.out.ext hs).cell 0 (v := .int .i64 ra.lo.n) rfl
  have d1 := (HR.out.ext hs).cell 1 (v := .int .i64 ra.lo.d) rfl
  have d4 := (HR.out.ext hs).cell 4 (v := .int .i64 rb.lo.n) rfl
  have d5 := (HR.out.ext hs).cell 5 (v := .int .i64 rb.lo.d) rfl
  clear hs
  go_wp2_with fail
  refine (better_rng ⟨ra.lo, ra.lo⟩ ⟨rb.lo, rb.lo⟩ HVA.out.low HVB.out.low _).mono ?_
  obtain ⟨Sx, hSx⟩ : ∃ y, decide (rb.lo.n * ra.lo.d < ra.lo.n * rb.lo.d) = y := ⟨_, rfl⟩
  rw [show sOf ⟨ra.lo, ra.lo⟩ ⟨rb.lo, rb.lo⟩ = Sx from hSx, show pOf ⟨ra.lo, ra.lo⟩ ⟨rb.lo, rb.lo⟩ = Sx from hSx]
  have HSX := Lib.hid hSx
  rintro e w5 ⟨rfl, hx⟩
  have hs := Ext.trans (((Ext.refl W0).alloc _).alloc _) hx
  have HS5 := Lib.hid (HS.out.ext hs)
  have HR5 := Lib.hid (HR.out.ext hs)
  have HX5 := Lib.hid (HX.out.trans hs)
  have HO5 : Hid (Blk w5 W0.heap.size #[.int .i64 ra.lo.n, .int .i64 ra.lo.d, .int .i64 ra.lo.n, .int .i64 ra.lo.d]) := Lib.hid (((Blk.new W0 _ _).alloc _).ext hx)
  have HT5 : Hid (Blk w5 (W0.heap.size + 1) #[.int .i64 rb.lo.n, .int .i64 rb.lo.d, .int .i64 rb.lo.n, .int .i64 rb.lo.d]) := Lib.hid ((Blk.at (W0.heap.size + 1) (by simp)).ext hx)
  clear hs hx hSx HS HR HX c0 d0 c1 d1 c4 d4 c5 d5
  go_wp2_with fail
  rename_i K0 b0
  go_loopw [18] (fun i wr => ∃ k : Nat, k ≤ 3 ∧ i = .int .i64 k ∧ Blk wr SB (matC 9 ra rb rc) ∧ Blk wr RB (rngC 3 ra rb rc) ∧ Ext w5 wr) (fun i _ => 3 - (intOf i).toNat)
  case atStart => exact ⟨0, by omega, rfl, HS5.out, HR5.out, Ext.refl _⟩
  case round =>
    obtain ⟨k, hk, rfl, hS, hR, hx⟩ := hrel
    have HS := Lib.hid hS
    have HR := Lib.hid hR
    have HX := Lib.hid hx
    clear hS hR hx HS5 HR5
    obtain rfl | rfl | rfl | rfl : k = 0 ∨ k = 1 ∨ k = 2 ∨ k = 3 := by omega
    · rw [show ((0 : Nat) : Int) = 0 from rfl]
      go_wp2_with fail
      refine ord_back0 _ (by kernel_rfl) _ ra rb rc RB SB w5 _ HVA HVB HVC HS HR HX (fun _ _ _ _ _ _ _ _ _ _ _ _ _ _ _ _ _ _ _ _ _ _ _ _ _ _ _ _ _ _ _ _ _ _ _ _ _ _ _ _ _ _ _ _ _ _ _ _ _ _ _ _ _ _ _ _ _ _ _ _ _ _ _ _ W hS hR hx => ?_)
      go_wp2_with fail
      go_roundw
      case rel => exact ⟨1, by omega, by go_num, hS, hR, hx⟩
      case measure => simp [intOf]
    · rw [show ((1 : Nat) : Int) = 1 from rfl]
      go_wp2_with fail
      refine ord_back1 _ (by kernel_rfl) _ ra rb rc RB SB w5 _ HVA HVB HVC HS HR HX (fun _ _ _ _ _ _ _ _ _ _ _ _ _ _ _ _ _ _ _ _ _ _ _ _ _ _ _ _ _ _ _ _ _ _ _ _ _ _ _ _ _ _ _ _ _ _ _ _ _ _ _ _ _ _ _ _ _ _ _ _ _ _ _ _ W hS hR hx => ?_)
      go_wp2_with fail
      go_roundw
      case rel => exact ⟨2, by omega, by go_num, hS, hR, hx⟩
      case measure => simp [intOf]
    · rw [show ((2 : Nat) : Int) = 2 from rfl]
      go_wp2_with fail
      refine ord_back2 _ (by kernel_rfl) _ ra rb rc RB SB w5 _ HVA HVB HVC HS HR HX (fun _ _ _ _ _ _ _ _ _ _ _ _ _ _ _ _ _ _ _ _ _ _ _ _ _ _ _ _ _ _ _ _ _ _ _ _ _ _ _ _ _ _ _ _ _ _ _ _ _ _ _ _ _ _ _ _ _ _ _ _ _ _ _ _ W hS hR hx => ?_)
      go_wp2_with fail
      go_roundw
      case rel => exact ⟨3, by omega, by go_num, hS, hR, hx⟩
      case measure => simp [intOf]
    · rw [show ((3 : Nat) : Int) = 3 from rfl]
      go_upto_if 168 with fail
      refine wp_cond_false rfl ?_
      refine wp_exit ?_
      refine b0 _ _ ?_
      exact ord_end _ (by kernel_rfl) HK ra rb W0.heap.size (W0.heap.size + 1) Sx w _ HVA HVB (Lib.hid (HO5.out.ext HX.out)) (Lib.hid (HT5.out.ext HX.out)) HSX (Lib.hid (HX5.out.trans HX.out))
end Go.Proofs.Ytmopadnkjlodnaa
