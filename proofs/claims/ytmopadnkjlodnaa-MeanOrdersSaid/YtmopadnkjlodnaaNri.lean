/-
  MeanOrders, walked.
-/
import Derived.Test.YtmopadnkjlodnaaNrh
namespace Go.Proofs.Ytmopadnkjlodnaa
open Go.RowKit Go.BigFrame
attribute [local go_sem] Later.cell Later.frozen Lat.cell Lat.frozen
set_option maxRecDepth 100000 in
set_option maxHeartbeats 8000000 in
theorem ord_mat (c : Code) (hc : codeFrom 9 (Try.f10.body.getD .skip) = some c) (HK : Hid Knows) (ra rb rc : Ran) (RB : Nat) (w W0 : World) (HVA : Hid (RngV ra)) (HVB : Hid (RngV rb)) (HVC : Hid (RngV rc)) {s0 s1 s2 s4 s5 s6 s7 s8 s9 s10 s11 s12 s13 s14 s15 s16 s17 s18 s19 s20 s21 s22 s23 s24 s25 s26 s27 s28 s29 s30 s31 s32 s33 s34 s35 s36 s37 s38 s39 s40 s41 s42 s43 s44 s45 s46 s47 s48 s49 s50 s51 s52 s53 s54 s55 s56 s57 s58 s59 s60 s61 s62 s63 s64 s65 s66 s67 s68 s69 s70 s71 s72 s73 s74 s75 s76 s77 s78 s79 s80 s81 s82 s83 s84 s85 s86 s87 s88 s89 s90 s91 s92 s93 s94 s95 s96 s97 s98 s99 s100 s101 s102 s103 s104 s105 s106 s107 s108 s109 s110 s111 s112 s113 s114 s115 s116 s117 s118 s119 s120 s121 s122 s123 s124 s125 s126 s127 s128 s129 s130 s131 s132 s133 s134 s135 s136 s137 s138 s139 s140 s141 s142 s143 s144 s145 s146 s147 s148 s149 s150 s151 s152 s153 s154 s155 s156 s157 s158 s159 s160 s161 s162 s163 s164 s165 s166 s167 s168 s169 s170 s171 s172 s173 s174 s175 s176 s177 s178 s179 s180 s181 s182 s183 s184 s185 s186 s187 s188 s189 s190 s191 s192 s193 s194 s195 s196 s197 s198 s199 s200 s201 s202 s203 s204 s205 s206 s207 s208 s209 s210 s211 s212 s213 s214 s215 s216 s217 s218 s219 s220 s221 s222 s223 s224 s225 s226 s227 s228 s229 s230 s231 s232 s233 s234 s235 s236 s237 s238 s239 s240 s241 s242 s243 s244 s245 s246 s247 s248 s249 s250 s251 s252 s253 s254 s255 s256 s257 : Value}
    (HR : Hid (Blk W0 RB (rngC 3 ra rb rc))) (HX : Hid (Ext w W0)) :
    c.wp Try.prog (bodyPost Try.prog Try.f10 fun e w' => e = .returned (.bool true) ∧ Ext w w') { tmps := #[s0, s1, s2, .pointer (some ⟨RB, 0, none⟩), s4, s5, s6, s7, s8, s9, s10, s11, s12, s13, s14, s15, s16, s17, s18, s19, s20, s21, s22, s23, s24, s25, s26, s27, s28, s29, s30, s31, s32, s33, s34, s35, s36, s37, s38, s39, s40, s41, s42, s43, s44, s45, s46, s47, s48, s49, s50, s51, s52, s53, s54, s55, s56, s57, s58, s59, s60, s61, s62, s63, s64, s65, s66, s67, s68, s69, s70, s71, s72, s73, s74, s75, s76, s77, s78, s79, s80, s81, s82, s83, s84, s85, s86, s87, s88, s89, s90, s91, s92, s93, s94, s95, s96, s97, s98, s99, s100, s101, s102, s103, s104, s105, s106, s107, s108, s109, s110, s111, s112, s113, s114, s115, s116, s117, s118, s119, s120, s121, s122, s123, s124, s125, s126, s127, s128, s129, s130, s131, s132, s133, s134, s135, s136, s137, s138, s139, s140, s141, s142, s143, s144, s145, s146, s147, s148, s149, s150, s151, s152, s153, s154, s155, s156, s157, s158, s159, s160, s161, s162, s163, s164, s165, s166, s167, s168, s169, s170, s171, s172, s173, s174, s175, s176, s177, s178, s179, s180, s181, s182, s183, s184, s185, s186, s187, s188, s189, s190, s191, s192, s193, s194, s195, s196, s197, s198, s199, s200, s201, s202, s203, s204, s205, s206, s207, s208, s209, s210, s211, s212, s213, s214, s215, s216, s217, s218, s219, s220, s221, s222, s223, s224, s225, s226, s227, s228, s229, s230, s231, s232, s233, s234, s235, s236, s237, s238, s239, s240, s241, s242, s243, s244, s245, s246, s247, s248, s249, s250, s251, s252, s253, s254, s255, s256, s257], defers := [] } W0 := by
  simp only [Try.f10, Option.getD_some, codeFrom, ↓reduceIte, Nat.reduceEqDiff, Option.some.injEq] at hc
  subst hc
  dsimp only
  go_wp2_with fail
  rename_i K0 b0
  obtain ⟨SB, hSB⟩ : ∃ y, y = W0.heap.size := ⟨_, rfl⟩
  obtain ⟨W1, hW1⟩ : ∃ y, y = W0.alloc (.cells #[.bool false, .bool false, .bool false, .bool false, .bool false, .bool false, .bool false, .bool false, .bool false] 92) := ⟨_, rfl⟩
  rw [← hSB, ← hW1]
  have HS1 : Hid (Blk W1 SB (matC 0 ra rb rc)) := Lib.hid (by rw [hW1, hSB]; exact Blk.new _ _ _)
  have hx1 : Ext W0 W1 := by rw [hW1]; exact (Ext.refl W0).alloc _
  have HR1 := Lib.hid (HR.out.ext hx1)
  have HX1 := Lib.hid (HX.out.trans hx1)
  have HSB : Hid (w.heap.size ≤ SB ∧ SB ≠ RB) := Lib.hid (by have h1 := HX.out.size; have h2 := HR.out.lt; rw [hSB]; exact ⟨h1, by omega⟩)
  clear hSB hW1 hx1 HR HX
  go_loopw [8] (fun i wr => ∃ k : Nat, k ≤ 3 ∧ i = .int .i64 k ∧ Blk wr SB (matC (3 * k) ra rb rc) ∧ Blk wr RB (rngC 3 ra rb rc) ∧ Ext w wr) (fun i _ => 3 - (intOf i).toNat)
  case atStart => exact ⟨0, by omega, rfl, HS1.out, HR1.out, HX1.out⟩
  case round =>
    obtain ⟨k, hk, rfl, hS, hR, hx⟩ := hrel
    have HS := Lib.hid hS
    have HR := Lib.hid hR
    have HX := Lib.hid hx
    clear hS hR hx HS1 HR1 HX1
    obtain rfl | rfl | rfl | rfl : k = 0 ∨ k = 1 ∨ k = 2 ∨ k = 3 := by omega
    · rw [show ((0 : Nat) : Int) = 0 from rfl]
      go_wp2_with fail
      refine ord_row0 _ (by kernel_rfl) _ ra rb rc RB SB w _ HVA HVB HVC HSB HS HR HX (fun _ _ _ _ _ _ _ _ _ _ _ _ _ _ _ _ _ _ _ _ _ _ _ _ _ _ _ _ _ _ _ _ _ _ _ _ _ _ _ _ _ _ _ _ _ _ _ _ _ _ _ _ _ _ _ _ _ _ _ _ _ _ _ _ _ _ _ _ _ W hS hR hx => ?_)
      go_wp2_with fail
      go_roundw
      case rel => exact ⟨1, by omega, by go_num, hS, hR, hx⟩
      case measure => simp [intOf]
    · rw [show ((1 : Nat) : Int) = 1 from rfl]
      go_wp2_with fail
      refine ord_row1 _ (by kernel_rfl) _ ra rb rc RB SB w _ HVA HVB HVC HSB HS HR HX (fun _ _ _ _ _ _ _ _ _ _ _ _ _ _ _ _ _ _ _ _ _ _ _ _ _ _ _ _ _ _ _ _ _ _ _ _ _ _ _ _ _ _ _ _ _ _ _ _ _ _ _ _ _ _ _ _ _ _ _ _ _ _ _ _ _ _ _ _ _ W hS hR hx => ?_)
      go_wp2_with fail
      go_roundw
      case rel => exact ⟨2, by omega, by go_num, hS, hR, hx⟩
      case measure => simp [intOf]
    · rw [show ((2 : Nat) : Int) = 2 from rfl]
      go_wp2_with fail
      refine ord_row2 _ (by kernel_rfl) _ ra rb rc RB SB w _ HVA HVB HVC HSB HS HR HX (fun _ _ _ _ _ _ _ _ _ _ _ _ _ _ _ _ _ _ _ _ _ _ _ _ _ _ _ _ _ _ _ _ _ _ _ _ _ _ _ _ _ _ _ _ _ _ _ _ _ _ _ _ _ _ _ _ _ _ _ _ _ _ _ _ _ _ _ _ _ W hS hR hx => ?_)
      go_wp2_with fail
      go_roundw
      case rel => exact ⟨3, by omega, by go_num, hS, hR, hx⟩
      case measure => simp [intOf]
    · rw [show ((3 : Nat) : Int) = 3 from rfl]
      go_upto_if 79 with fail
      refine wp_cond_false rfl ?_
      refine wp_exit ?_
      refine b0 _ _ ?_
      exact ord_rest _ (by kernel_rfl) HK ra rb rc RB SB w _ HVA HVB HVC HS HR HX
set_option maxRecDepth 100000 in
set_option maxHeartbeats 2000000 in
theorem law_orders (HK : Hid Knows) (x0 x1 x2 x3 x4 x5 x6 x7 x8 x9 x10 x11 : Int) (h0 : 0 ≤ x0 ∧ x0 ≤ 65535) (h1 : 0 ≤ x1 ∧ x1 ≤ 65535) (h2 : 0 ≤ x2 ∧ x2 ≤ 65535) (h3 : 0 ≤ x3 ∧ x3 ≤ 65535) (h4 : 0 ≤ x4 ∧ x4 ≤ 65535) (h5 : 0 ≤ x5 ∧ x5 ≤ 65535) (h6 : 0 ≤ x6 ∧ x6 ≤ 65535) (h7 : 0 ≤ x7 ∧ x7 ≤ 65535) (h8 : 0 ≤ x8 ∧ x8 ≤ 65535) (h9 : 0 ≤ x9 ∧ x9 ≤ 65535) (h10 : 0 ≤ x10 ∧ x10 ≤ 65535) (h11 : 0 ≤ x11 ∧ x11 ≤ 65535) (w : World) : Calls Try.prog 10 #[.agg #[.int .u16 x0, .int .u16 x1, .int .u16 x2, .int .u16 x3, .int .u16 x4, .int .u16 x5, .int .u16 x6, .int .u16 x7, .int .u16 x8, .int .u16 x9, .int .u16 x10, .int .u16 x11]] w fun e w' => e = .returned (.bool true) ∧ Ext w w' := by
  go_enter Try.func10, Try.ntmps10
  obtain ⟨ra, hra⟩ : ∃ y, ordR x0 (1 + x1) x2 (1 + x3) = y := ⟨_, rfl⟩
  obtain ⟨rb, hrb⟩ : ∃ y, ordR x4 (1 + x5) x6 (1 + x7) = y := ⟨_, rfl⟩
  obtain ⟨rc, hrc⟩ : ∃ y, ordR x8 (1 + x9) x10 (1 + x11) = y := ⟨_, rfl⟩
  have HRA := Lib.hid hra
  have HRB_ := Lib.hid hrb
  have HRC := Lib.hid hrc
  clear hra hrb hrc
  have HVA : Hid (RngV ra) := Lib.hid (by rw [← HRA.out]; exact ord_ok h0 (by omega) h2 (by omega))
  have HVB : Hid (RngV rb) := Lib.hid (by rw [← HRB_.out]; exact ord_ok h4 (by omega) h6 (by omega))
  have HVC : Hid (RngV rc) := Lib.hid (by rw [← HRC.out]; exact ord_ok h8 (by omega) h10 (by omega))
  have H0 := Lib.hid h0
  have H1 := Lib.hid h1
  have H2 := Lib.hid h2
  have H3 := Lib.hid h3
  have H4 := Lib.hid h4
  have H5 := Lib.hid h5
  have H6 := Lib.hid h6
  have H7 := Lib.hid h7
  have H8 := Lib.hid h8
  have H9 := Lib.hid h9
  have H10 := Lib.hid h10
  have H11 := Lib.hid h11
  clear h0 h1 h2 h3 h4 h5 h6 h7 h8 h9 h10 h11
  go_wp2_with fail
  rename_i K0 b0
  obtain ⟨W0, hW0⟩ : ∃ y, y = (w.alloc (.cells #[.int .u16 x0, .int .u16 x1, .int .u16 x2, .int .u16 x3, .int .u16 x4, .int .u16 x5, .int .u16 x6, .int .u16 x7, .int .u16 x8, .int .u16 x9, .int .u16 x10, .int .u16 x11] 89)).alloc (.cells #[.int .i64 0, .int .i64 0, .int .i64 0, .int .i64 0, .int .i64 0, .int .i64 0, .int .i64 0, .int .i64 0, .int .i64 0, .int .i64 0, .int .i64 0, .int .i64 0] 90) := ⟨_, rfl⟩
  rw [← hW0]
  have HW0 : Hid (Ext w W0) := Lib.hid (by rw [hW0]; exact ((Ext.refl w).alloc _).alloc _)
  have HB0 : Hid (Blk W0 w.heap.size #[.int .u16 x0, .int .u16 x1, .int .u16 x2, .int .u16 x3, .int .u16 x4, .int .u16 x5, .int .u16 x6, .int .u16 x7, .int .u16 x8, .int .u16 x9, .int .u16 x10, .int .u16 x11]) := Lib.hid (by rw [hW0]; exact (Blk.new w _ _).alloc _)
  have HR0 : Hid (Blk W0 (w.heap.size + 1) (rngC 0 ra rb rc)) := Lib.hid (by rw [hW0]; exact Blk.at _ (by simp))
  have HLO : Hid (∃ lo, w.heap.size = lo) := Lib.hid ⟨_, rfl⟩
  obtain ⟨RB, hRB⟩ : ∃ y, y = w.heap.size + 1 := ⟨_, rfl⟩
  rw [← hRB] at HR0 ⊢
  have HRB : Hid (w.heap.size ≤ RB ∧ RB ≠ w.heap.size) := Lib.hid (by omega)
  clear hW0 hRB
  obtain ⟨XB, hXB⟩ : ∃ y, y = w.heap.size := ⟨_, rfl⟩
  rw [← hXB] at HB0 ⊢
  have HXB : Hid (XB = w.heap.size) := Lib.hid hXB
  clear hXB HLO
  go_loopw [4] (fun i wr => ∃ k : Nat, k ≤ 3 ∧ i = .int .i64 k ∧ Blk wr RB (rngC k ra rb rc) ∧ Blk wr XB #[.int .u16 x0, .int .u16 x1, .int .u16 x2, .int .u16 x3, .int .u16 x4, .int .u16 x5, .int .u16 x6, .int .u16 x7, .int .u16 x8, .int .u16 x9, .int .u16 x10, .int .u16 x11] ∧ Ext w wr) (fun i _ => 3 - (intOf i).toNat)
  case atStart => exact ⟨0, by omega, rfl, HR0.out, HB0.out, HW0.out⟩
  case round =>
    obtain ⟨k, hk, rfl, hR, hB, hx⟩ := hrel
    have HR := Lib.hid hR
    have HB := Lib.hid hB
    have HX := Lib.hid hx
    clear hR hB hx HR0 HB0 HW0
    obtain rfl | rfl | rfl | rfl : k = 0 ∨ k = 1 ∨ k = 2 ∨ k = 3 := by omega
    · rw [show ((0 : Nat) : Int) = 0 from rfl]
      go_wp2_with fail
      have c0 := HB.out.cell 0 (v := .int .u16 x0) rfl
      have c1 := HB.out.cell 1 (v := .int .u16 x1) rfl
      have c2 := HB.out.cell 2 (v := .int .u16 x2) rfl
      have c3 := HB.out.cell 3 (v := .int .u16 x3) rfl
      have c4 := HB.out.cell 4 (v := .int .u16 x4) rfl
      have c5 := HB.out.cell 5 (v := .int .u16 x5) rfl
      have c6 := HB.out.cell 6 (v := .int .u16 x6) rfl
      have c7 := HB.out.cell 7 (v := .int .u16 x7) rfl
      have c8 := HB.out.cell 8 (v := .int .u16 x8) rfl
      have c9 := HB.out.cell 9 (v := .int .u16 x9) rfl
      have c10 := HB.out.cell 10 (v := .int .u16 x10) rfl
      have c11 := HB.out.cell 11 (v := .int .u16 x11) rfl
      have cl := HB.out.lt
      have hn : ¬ (wr.heap.size ≤ XB) := by have := HB.out.lt; omega
      obtain ⟨p0, q0⟩ := H0.out
      obtain ⟨p1, q1⟩ := H1.out
      obtain ⟨p2, q2⟩ := H2.out
      obtain ⟨p3, q3⟩ := H3.out
      refine wp_region_calls (by kernel_rfl) [.no, .no, .no, .no, .no, .no, .no, .no, .no, .no, .no, .no, .no, .no, .no, .no, .no, .no, .no, .no, .no, .no, .no, .no, .no, .no, .no, .no, .no, .no, .ptr, .ptr, .any, .any] wr.heap.size (fun (c : Unit) => 0)
        (fun (c : Unit) L u => [bif L 30 then Res.blk (ptrAt (u 30)) (bif L 32 then #[.int .i64 x0, .int .i64 (1 + x1)] else #[.int .i64 0, .int .i64 0]) else Res.none, bif L 31 then Res.blk (ptrAt (u 31)) (bif L 33 then #[.int .i64 x2, .int .i64 (1 + x3)] else #[.int .i64 0, .int .i64 0]) else Res.none])
        () (by kernel_rfl) (Nat.le_of_ble_eq_true rfl) (fun c L L' u hh => by simp only [hh 30 rfl, hh 31 rfl, hh 32 rfl, hh 33 rfl]) (by simp) (fun _ => Frm.nones _ 2 wr) ?_
      intro T hT hne u hu
      obtain ⟨ka, u30⟩ : ∃ k, u 30 = .pointer (some ⟨k, 0, none⟩) := hu 30 rfl
      obtain ⟨kb, u31⟩ : ∃ k, u 31 = .pointer (some ⟨k, 0, none⟩) := hu 31 rfl
      clear hu
      refine lx_next 30 (by rfl) (by decide) ?_
      dsimp only [List.take, List.drop]
      repeat (go_big_quiet_step (fail))
      refine wpQuiet_nil ?_
      refine lx_loud (by rfl) (by kernel_rfl) ?_ (fun K hK => ?_)
      · intro L w3 hL hd hcl hC hs
        obtain ⟨y, rfl⟩ := hC
        obtain ⟨c, hmc, hs⟩ := hs
        have hzs := y.size
        have h32 := hcl.off hL 40 32 (by kernel_rfl)
        simp only [hL, h32, cond_false] at hs
        go_wp2
        exact lik_set y (Nat.le_refl _) ⟨_, rfl⟩ hs 0 (r' := Res.blk y.world.heap.size #[.int .i64 0, .int .i64 0]) rfl (((Ext.refl y.world).alloc _).chg _) (Blk.new _ _ _) (fun k hk => .inr (by rw [show k = y.world.heap.size from hk]; simp)) c hmc (by first | (simp [upd, updv, hL, h32]; done) | (simp [upd, updv, hL, h32]; rfl))
      rw [u30]
      go_simp
      with_reducible refine hK _ ?_
      clear hK K
      refine lx_loud (by rfl) (by kernel_rfl) ?_ (fun K hK => ?_)
      · intro L w3 hL hd hcl hC hs
        obtain ⟨y, rfl⟩ := hC
        obtain ⟨c, hmc, hs⟩ := hs
        have hzs := y.size
        have h33 := hcl.off hL 40 33 (by kernel_rfl)
        simp only [hL, h33, cond_false] at hs
        go_wp2
        exact lik_set y (Nat.le_refl _) ⟨_, rfl⟩ hs 1 (r' := Res.blk y.world.heap.size #[.int .i64 0, .int .i64 0]) rfl (((Ext.refl y.world).alloc _).chg _) (Blk.new _ _ _) (fun k hk => .inr (by rw [show k = y.world.heap.size from hk]; simp)) c hmc (by first | (simp [upd, updv, hL, h33]; done) | (simp [upd, updv, hL, h33]; rfl))
      rw [u31]
      go_simp
      with_reducible refine hK _ ?_
      clear hK K
      refine lx_loud (by rfl) (by kernel_rfl) ?_ (fun K hK => ?_)
      · intro L w3 hL hd hcl hC hs
        obtain ⟨y, rfl⟩ := hC
        obtain ⟨c, hmc, hs⟩ := hs
        have hzs := y.size
        have h30 := hd 30 (by kernel_rfl)
        simp only [hL, h30, cond_true, cond_false] at hs
        rw [u30] at hs
        have hb : Blk y.world ka #[.int .i64 0, .int .i64 0] := hs.get 0 rfl
        have hlt := hb.lt
        have q0 := hb.cell 0 (v := .int .i64 0) rfl
        have f0 := hb.frozen 0
        have q1 := hb.cell 1 (v := .int .i64 0) rfl
        have f1 := hb.frozen 1
        go_wp2
        exact lik_set y (Nat.le_refl _) trivial hs 0 rfl (two_chg (fun k => k = ka) _ rfl _ _ ) (r' := Res.blk ka #[.int .i64 x0, .int .i64 (1 + x1)]) (two_set hb _ _ ) (fun _ hk => .inl hk) c hmc (by first | (simp [upd, updv, hL, h30, u30, ptrAt]; done) | (simp [upd, updv, hL, h30, u30, ptrAt]; rfl))
      go_simp
      with_reducible refine hK _ ?_
      clear hK K
      refine lx_loud (by rfl) (by kernel_rfl) ?_ (fun K hK => ?_)
      · intro L w3 hL hd hcl hC hs
        obtain ⟨y, rfl⟩ := hC
        obtain ⟨c, hmc, hs⟩ := hs
        have hzs := y.size
        have h31 := hd 31 (by kernel_rfl)
        simp only [hL, h31, cond_true, cond_false] at hs
        rw [u31] at hs
        have hb : Blk y.world kb #[.int .i64 0, .int .i64 0] := hs.get 1 rfl
        have hlt := hb.lt
        have q0 := hb.cell 0 (v := .int .i64 0) rfl
        have f0 := hb.frozen 0
        have q1 := hb.cell 1 (v := .int .i64 0) rfl
        have f1 := hb.frozen 1
        go_wp2
        exact lik_set y (Nat.le_refl _) trivial hs 1 rfl (two_chg (fun k => k = kb) _ rfl _ _ ) (r' := Res.blk kb #[.int .i64 x2, .int .i64 (1 + x3)]) (two_set hb _ _ ) (fun _ hk => .inl hk) c hmc (by first | (simp [upd, updv, hL, h31, u31, ptrAt]; done) | (simp [upd, updv, hL, h31, u31, ptrAt]; rfl))
      go_simp
      with_reducible refine hK _ ?_
      clear hK K
      refine lx_nil ?_
      intro y hs
      obtain ⟨c, hmc, hs⟩ := hs
      rw [u30, u31] at hs
      have hX : Ext wr y.world := Chg.to_ext (Ext.refl wr) y.chg (by rintro i ⟨_, h⟩; exact h)
      have hmc2 : 0 ≤ y.world.heap.size := hmc
      have hbka : Blk y.world ka #[.int .i64 x0, .int .i64 (1 + x1)] := hs.get 0 rfl
      have hlka := hs.lt 0 rfl ka rfl
      have hbkb : Blk y.world kb #[.int .i64 x2, .int .i64 (1 + x3)] := hs.get 1 rfl
      have hlkb := hs.lt 1 rfl kb rfl
      have hne_ka_kb : ka ≠ kb := fun e => hs.parts 0 1 _ _ rfl rfl (by decide) ka rfl e
      clear hs  hmc hmc2 hT hne u30 u31
      generalize y.world = W5 at *
      have HX5 := Lib.hid (HX.out.trans hX)
      have HBX := Lib.hid (HB.out.ext hX)
      have HBR : Hid (Blk W5 RB #[.int .i64 0, .int .i64 0, .int .i64 0, .int .i64 0, .int .i64 0, .int .i64 0, .int .i64 0, .int .i64 0, .int .i64 0, .int .i64 0, .int .i64 0, .int .i64 0]) := Lib.hid (HR.out.ext hX)
      have hrl := HR.out.lt
      have hsz := HX.out.size
      have hxl := HB.out.lt
      have hlka' := hlka
      have hlkb' := hlkb
      have HNE : Hid ((w.heap.size ≤ ka ∧ w.heap.size ≤ kb) ∧ (ka ≠ kb ∧ RB ≠ ka ∧ RB ≠ kb) ∧ (XB ≠ ka ∧ XB ≠ kb ∧ XB ≠ RB)) := Lib.hid (by
        have h1 := HRB.out
        have h2 := HXB.out
        refine ⟨⟨by omega, by omega⟩, ⟨hne_ka_kb, by omega, by omega⟩, by omega, by omega, by omega⟩)
      obtain ⟨da, hda⟩ : ∃ y, y = 1 + x1 := ⟨_, rfl⟩
      obtain ⟨db, hdb⟩ : ∃ y, y = 1 + x3 := ⟨_, rfl⟩
      have HRK : Hid (ordR x0 da x2 db = ra) := Lib.hid (by rw [hda, hdb]; exact HRA.out)
      rw [← hda] at hbka
      rw [← hdb] at hbkb
      obtain ⟨w1, w2⟩ : wrap64 (x0 * db) = x0 * db ∧ wrap64 (x2 * da) = x2 * da := by
        have h1 : 0 ≤ x0 * db := Int.mul_nonneg p0 (by omega)
        have h2 : x0 * db ≤ 65535 * 65536 := Int.mul_le_mul q0 (by omega) (by omega) (by omega)
        have h3 : 0 ≤ x2 * da := Int.mul_nonneg p2 (by omega)
        have h4 : x2 * da ≤ 65535 * 65536 := Int.mul_le_mul q2 (by omega) (by omega) (by omega)
        exact ⟨wrap64_in' ⟨by omega, by omega⟩, wrap64_in' ⟨by omega, by omega⟩⟩
      have HKA := Lib.hid hbka
      have HKB := Lib.hid hbkb
      clear hrl hsz hxl hlka hlkb hlka' hlkb' hda hdb p0 p1 p2 p3 q0 q1 q2 q3 c0 c1 c2 c3 c4 c5 c6 c7 c8 c9 c10 c11 cl hn hX HR HB HX hbka hbkb hne_ka_kb
      have a0 := HKA.out.cell 0 (v := .int .i64 x0) rfl
      have a1 := HKA.out.cell 1 (v := .int .i64 da) rfl
      have al := HKA.out.lt
      have af0 := HKA.out.frozen 0
      have af1 := HKA.out.frozen 1
      have b0 := HKB.out.cell 0 (v := .int .i64 x2) rfl
      have b1 := HKB.out.cell 1 (v := .int .i64 db) rfl
      have bl := HKB.out.lt
      have bf0 := HKB.out.frozen 0
      have bf1 := HKB.out.frozen 1
      have r0 := HBR.out.cell 0 (v := .int .i64 0) rfl
      have rf0 := HBR.out.frozen 0
      have r1 := HBR.out.cell 1 (v := .int .i64 0) rfl
      have rf1 := HBR.out.frozen 1
      have r2 := HBR.out.cell 2 (v := .int .i64 0) rfl
      have rf2 := HBR.out.frozen 2
      have r3 := HBR.out.cell 3 (v := .int .i64 0) rfl
      have rf3 := HBR.out.frozen 3
      have rl := HBR.out.lt
      obtain ⟨n1, n2, n3⟩ := HNE.out.2.1
      have n4 := n1.symm
      have n5 := n2.symm
      have n6 := n3.symm
      by_cases hlt : x2 * da < x0 * db
      · go_wp2_with fail
        go_roundw
        case rel =>
          have hq := HBR.out.chg (((((Chg.refl (fun b => b = ka ∨ b = kb) W5).setCell (p := ⟨ka, 0, none⟩) (.inr (.inl rfl)) (.int .i64 x2)).setCell (p := ⟨ka, 1, none⟩) (.inr (.inl rfl)) (.int .i64 db)).setCell (p := ⟨kb, 0, none⟩) (.inr (.inr rfl)) (.int .i64 x0)).setCell (p := ⟨kb, 1, none⟩) (.inr (.inr rfl)) (.int .i64 da)) (by rintro (h | h); exact HNE.out.2.1.2.1 h; exact HNE.out.2.1.2.2 h)
          obtain rfl : ra = ⟨⟨x2, db⟩, ⟨x0, da⟩⟩ := by rw [← HRK.out, ordR]; first | (rw [if_pos hlt]; done) | (rw [if_neg hlt]; done)
          have h0 : Blk _ RB #[.int .i64 x2, .int .i64 0, .int .i64 0, .int .i64 0, .int .i64 0, .int .i64 0, .int .i64 0, .int .i64 0, .int .i64 0, .int .i64 0, .int .i64 0, .int .i64 0] := hq.set 0 (.int .i64 x2)
          have h1 : Blk _ RB #[.int .i64 x2, .int .i64 db, .int .i64 0, .int .i64 0, .int .i64 0, .int .i64 0, .int .i64 0, .int .i64 0, .int .i64 0, .int .i64 0, .int .i64 0, .int .i64 0] := h0.set 1 (.int .i64 db)
          have h2 : Blk _ RB #[.int .i64 x2, .int .i64 db, .int .i64 x0, .int .i64 0, .int .i64 0, .int .i64 0, .int .i64 0, .int .i64 0, .int .i64 0, .int .i64 0, .int .i64 0, .int .i64 0] := h1.set 2 (.int .i64 x0)
          have h3 : Blk _ RB #[.int .i64 x2, .int .i64 db, .int .i64 x0, .int .i64 da, .int .i64 0, .int .i64 0, .int .i64 0, .int .i64 0, .int .i64 0, .int .i64 0, .int .i64 0, .int .i64 0] := h2.set 3 (.int .i64 da)
          have hc := (((((((((Chg.refl (fun b => b = RB ∨ b = ka ∨ b = kb) W5).setCell (p := ⟨ka, 0, none⟩) (.inr (.inr (.inl rfl))) (.int .i64 x2)).setCell (p := ⟨ka, 1, none⟩) (.inr (.inr (.inl rfl))) (.int .i64 db)).setCell (p := ⟨kb, 0, none⟩) (.inr (.inr (.inr rfl))) (.int .i64 x0)).setCell (p := ⟨kb, 1, none⟩) (.inr (.inr (.inr rfl))) (.int .i64 da)).setCell (p := ⟨RB, 0, none⟩) (.inr (.inl rfl)) (.int .i64 x2)).setCell (p := ⟨RB, 1, none⟩) (.inr (.inl rfl)) (.int .i64 db)).setCell (p := ⟨RB, 2, none⟩) (.inr (.inl rfl)) (.int .i64 x0)).setCell (p := ⟨RB, 3, none⟩) (.inr (.inl rfl)) (.int .i64 da))
          exact ⟨1, by omega, by go_num, h3, HBX.out.chg hc (by rintro (h | h | h); exact HNE.out.2.2.2.2 h; exact HNE.out.2.2.1 h; exact HNE.out.2.2.2.1 h), Chg.to_ext HX5.out hc (by rintro i (rfl | rfl | rfl); exact HRB.out.1; exact HNE.out.1.1; exact HNE.out.1.2)⟩
        case measure => simp [intOf]
      · go_wp2_with fail
        go_roundw
        case rel =>
          obtain rfl : ra = ⟨⟨x0, da⟩, ⟨x2, db⟩⟩ := by rw [← HRK.out, ordR]; first | (rw [if_pos hlt]; done) | (rw [if_neg hlt]; done)
          have h0 : Blk _ RB #[.int .i64 x0, .int .i64 0, .int .i64 0, .int .i64 0, .int .i64 0, .int .i64 0, .int .i64 0, .int .i64 0, .int .i64 0, .int .i64 0, .int .i64 0, .int .i64 0] := HBR.out.set 0 (.int .i64 x0)
          have h1 : Blk _ RB #[.int .i64 x0, .int .i64 da, .int .i64 0, .int .i64 0, .int .i64 0, .int .i64 0, .int .i64 0, .int .i64 0, .int .i64 0, .int .i64 0, .int .i64 0, .int .i64 0] := h0.set 1 (.int .i64 da)
          have h2 : Blk _ RB #[.int .i64 x0, .int .i64 da, .int .i64 x2, .int .i64 0, .int .i64 0, .int .i64 0, .int .i64 0, .int .i64 0, .int .i64 0, .int .i64 0, .int .i64 0, .int .i64 0] := h1.set 2 (.int .i64 x2)
          have h3 : Blk _ RB #[.int .i64 x0, .int .i64 da, .int .i64 x2, .int .i64 db, .int .i64 0, .int .i64 0, .int .i64 0, .int .i64 0, .int .i64 0, .int .i64 0, .int .i64 0, .int .i64 0] := h2.set 3 (.int .i64 db)
          have hc := (((((Chg.refl (fun b => b = RB ∨ b = ka ∨ b = kb) W5).setCell (p := ⟨RB, 0, none⟩) (.inr (.inl rfl)) (.int .i64 x0)).setCell (p := ⟨RB, 1, none⟩) (.inr (.inl rfl)) (.int .i64 da)).setCell (p := ⟨RB, 2, none⟩) (.inr (.inl rfl)) (.int .i64 x2)).setCell (p := ⟨RB, 3, none⟩) (.inr (.inl rfl)) (.int .i64 db))
          exact ⟨1, by omega, by go_num, h3, HBX.out.chg hc (by rintro (h | h | h); exact HNE.out.2.2.2.2 h; exact HNE.out.2.2.1 h; exact HNE.out.2.2.2.1 h), Chg.to_ext HX5.out hc (by rintro i (rfl | rfl | rfl); exact HRB.out.1; exact HNE.out.1.1; exact HNE.out.1.2)⟩
        case measure => simp [intOf]
    · rw [show ((1 : Nat) : Int) = 1 from rfl]
      go_wp2_with fail
      have c0 := HB.out.cell 0 (v := .int .u16 x0) rfl
      have c1 := HB.out.cell 1 (v := .int .u16 x1) rfl
      have c2 := HB.out.cell 2 (v := .int .u16 x2) rfl
      have c3 := HB.out.cell 3 (v := .int .u16 x3) rfl
      have c4 := HB.out.cell 4 (v := .int .u16 x4) rfl
      have c5 := HB.out.cell 5 (v := .int .u16 x5) rfl
      have c6 := HB.out.cell 6 (v := .int .u16 x6) rfl
      have c7 := HB.out.cell 7 (v := .int .u16 x7) rfl
      have c8 := HB.out.cell 8 (v := .int .u16 x8) rfl
      have c9 := HB.out.cell 9 (v := .int .u16 x9) rfl
      have c10 := HB.out.cell 10 (v := .int .u16 x10) rfl
      have c11 := HB.out.cell 11 (v := .int .u16 x11) rfl
      have cl := HB.out.lt
      have hn : ¬ (wr.heap.size ≤ XB) := by have := HB.out.lt; omega
      obtain ⟨p0, q0⟩ := H4.out
      obtain ⟨p1, q1⟩ := H5.out
      obtain ⟨p2, q2⟩ := H6.out
      obtain ⟨p3, q3⟩ := H7.out
      refine wp_region_calls (by kernel_rfl) [.no, .no, .no, .no, .no, .no, .no, .no, .no, .no, .no, .no, .no, .no, .no, .no, .no, .no, .no, .no, .no, .no, .no, .no, .no, .no, .no, .no, .no, .no, .ptr, .ptr, .any, .any] wr.heap.size (fun (c : Unit) => 0)
        (fun (c : Unit) L u => [bif L 30 then Res.blk (ptrAt (u 30)) (bif L 32 then #[.int .i64 x4, .int .i64 (1 + x5)] else #[.int .i64 0, .int .i64 0]) else Res.none, bif L 31 then Res.blk (ptrAt (u 31)) (bif L 33 then #[.int .i64 x6, .int .i64 (1 + x7)] else #[.int .i64 0, .int .i64 0]) else Res.none])
        () (by kernel_rfl) (Nat.le_of_ble_eq_true rfl) (fun c L L' u hh => by simp only [hh 30 rfl, hh 31 rfl, hh 32 rfl, hh 33 rfl]) (by simp) (fun _ => Frm.nones _ 2 wr) ?_
      intro T hT hne u hu
      obtain ⟨ka, u30⟩ : ∃ k, u 30 = .pointer (some ⟨k, 0, none⟩) := hu 30 rfl
      obtain ⟨kb, u31⟩ : ∃ k, u 31 = .pointer (some ⟨k, 0, none⟩) := hu 31 rfl
      clear hu
      refine lx_next 30 (by rfl) (by decide) ?_
      dsimp only [List.take, List.drop]
      repeat (go_big_quiet_step (fail))
      refine wpQuiet_nil ?_
      refine lx_loud (by rfl) (by kernel_rfl) ?_ (fun K hK => ?_)
      · intro L w3 hL hd hcl hC hs
        obtain ⟨y, rfl⟩ := hC
        obtain ⟨c, hmc, hs⟩ := hs
        have hzs := y.size
        have h32 := hcl.off hL 40 32 (by kernel_rfl)
        simp only [hL, h32, cond_false] at hs
        go_wp2
        exact lik_set y (Nat.le_refl _) ⟨_, rfl⟩ hs 0 (r' := Res.blk y.world.heap.size #[.int .i64 0, .int .i64 0]) rfl (((Ext.refl y.world).alloc _).chg _) (Blk.new _ _ _) (fun k hk => .inr (by rw [show k = y.world.heap.size from hk]; simp)) c hmc (by first | (simp [upd, updv, hL, h32]; done) | (simp [upd, updv, hL, h32]; rfl))
      rw [u30]
      go_simp
      with_reducible refine hK _ ?_
      clear hK K
      refine lx_loud (by rfl) (by kernel_rfl) ?_ (fun K hK => ?_)
      · intro L w3 hL hd hcl hC hs
        obtain ⟨y, rfl⟩ := hC
        obtain ⟨c, hmc, hs⟩ := hs
        have hzs := y.size
        have h33 := hcl.off hL 40 33 (by kernel_rfl)
        simp only [hL, h33, cond_false] at hs
        go_wp2
        exact lik_set y (Nat.le_refl _) ⟨_, rfl⟩ hs 1 (r' := Res.blk y.world.heap.size #[.int .i64 0, .int .i64 0]) rfl (((Ext.refl y.world).alloc _).chg _) (Blk.new _ _ _) (fun k hk => .inr (by rw [show k = y.world.heap.size from hk]; simp)) c hmc (by first | (simp [upd, updv, hL, h33]; done) | (simp [upd, updv, hL, h33]; rfl))
      rw [u31]
      go_simp
      with_reducible refine hK _ ?_
      clear hK K
      refine lx_loud (by rfl) (by kernel_rfl) ?_ (fun K hK => ?_)
      · intro L w3 hL hd hcl hC hs
        obtain ⟨y, rfl⟩ := hC
        obtain ⟨c, hmc, hs⟩ := hs
        have hzs := y.size
        have h30 := hd 30 (by kernel_rfl)
        simp only [hL, h30, cond_true, cond_false] at hs
        rw [u30] at hs
        have hb : Blk y.world ka #[.int .i64 0, .int .i64 0] := hs.get 0 rfl
        have hlt := hb.lt
        have q0 := hb.cell 0 (v := .int .i64 0) rfl
        have f0 := hb.frozen 0
        have q1 := hb.cell 1 (v := .int .i64 0) rfl
        have f1 := hb.frozen 1
        go_wp2
        exact lik_set y (Nat.le_refl _) trivial hs 0 rfl (two_chg (fun k => k = ka) _ rfl _ _ ) (r' := Res.blk ka #[.int .i64 x4, .int .i64 (1 + x5)]) (two_set hb _ _ ) (fun _ hk => .inl hk) c hmc (by first | (simp [upd, updv, hL, h30, u30, ptrAt]; done) | (simp [upd, updv, hL, h30, u30, ptrAt]; rfl))
      go_simp
      with_reducible refine hK _ ?_
      clear hK K
      refine lx_loud (by rfl) (by kernel_rfl) ?_ (fun K hK => ?_)
      · intro L w3 hL hd hcl hC hs
        obtain ⟨y, rfl⟩ := hC
        obtain ⟨c, hmc, hs⟩ := hs
        have hzs := y.size
        have h31 := hd 31 (by kernel_rfl)
        simp only [hL, h31, cond_true, cond_false] at hs
        rw [u31] at hs
        have hb : Blk y.world kb #[.int .i64 0, .int .i64 0] := hs.get 1 rfl
        have hlt := hb.lt
        have q0 := hb.cell 0 (v := .int .i64 0) rfl
        have f0 := hb.frozen 0
        have q1 := hb.cell 1 (v := .int .i64 0) rfl
        have f1 := hb.frozen 1
        go_wp2
        exact lik_set y (Nat.le_refl _) trivial hs 1 rfl (two_chg (fun k => k = kb) _ rfl _ _ ) (r' := Res.blk kb #[.int .i64 x6, .int .i64 (1 + x7)]) (two_set hb _ _ ) (fun _ hk => .inl hk) c hmc (by first | (simp [upd, updv, hL, h31, u31, ptrAt]; done) | (simp [upd, updv, hL, h31, u31, ptrAt]; rfl))
      go_simp
      with_reducible refine hK _ ?_
      clear hK K
      refine lx_nil ?_
      intro y hs
      obtain ⟨c, hmc, hs⟩ := hs
      rw [u30, u31] at hs
      have hX : Ext wr y.world := Chg.to_ext (Ext.refl wr) y.chg (by rintro i ⟨_, h⟩; exact h)
      have hmc2 : 0 ≤ y.world.heap.size := hmc
      have hbka : Blk y.world ka #[.int .i64 x4, .int .i64 (1 + x5)] := hs.get 0 rfl
      have hlka := hs.lt 0 rfl ka rfl
      have hbkb : Blk y.world kb #[.int .i64 x6, .int .i64 (1 + x7)] := hs.get 1 rfl
      have hlkb := hs.lt 1 rfl kb rfl
      have hne_ka_kb : ka ≠ kb := fun e => hs.parts 0 1 _ _ rfl rfl (by decide) ka rfl e
      clear hs  hmc hmc2 hT hne u30 u31
      generalize y.world = W5 at *
      have HX5 := Lib.hid (HX.out.trans hX)
      have HBX := Lib.hid (HB.out.ext hX)
      have HBR : Hid (Blk W5 RB #[.int .i64 ra.lo.n, .int .i64 ra.lo.d, .int .i64 ra.hi.n, .int .i64 ra.hi.d, .int .i64 0, .int .i64 0, .int .i64 0, .int .i64 0, .int .i64 0, .int .i64 0, .int .i64 0, .int .i64 0]) := Lib.hid (HR.out.ext hX)
      have hrl := HR.out.lt
      have hsz := HX.out.size
      have hxl := HB.out.lt
      have hlka' := hlka
      have hlkb' := hlkb
      have HNE : Hid ((w.heap.size ≤ ka ∧ w.heap.size ≤ kb) ∧ (ka ≠ kb ∧ RB ≠ ka ∧ RB ≠ kb) ∧ (XB ≠ ka ∧ XB ≠ kb ∧ XB ≠ RB)) := Lib.hid (by
        have h1 := HRB.out
        have h2 := HXB.out
        refine ⟨⟨by omega, by omega⟩, ⟨hne_ka_kb, by omega, by omega⟩, by omega, by omega, by omega⟩)
      obtain ⟨da, hda⟩ : ∃ y, y = 1 + x5 := ⟨_, rfl⟩
      obtain ⟨db, hdb⟩ : ∃ y, y = 1 + x7 := ⟨_, rfl⟩
      have HRK : Hid (ordR x4 da x6 db = rb) := Lib.hid (by rw [hda, hdb]; exact HRB_.out)
      rw [← hda] at hbka
      rw [← hdb] at hbkb
      obtain ⟨w1, w2⟩ : wrap64 (x4 * db) = x4 * db ∧ wrap64 (x6 * da) = x6 * da := by
        have h1 : 0 ≤ x4 * db := Int.mul_nonneg p0 (by omega)
        have h2 : x4 * db ≤ 65535 * 65536 := Int.mul_le_mul q0 (by omega) (by omega) (by omega)
        have h3 : 0 ≤ x6 * da := Int.mul_nonneg p2 (by omega)
        have h4 : x6 * da ≤ 65535 * 65536 := Int.mul_le_mul q2 (by omega) (by omega) (by omega)
        exact ⟨wrap64_in' ⟨by omega, by omega⟩, wrap64_in' ⟨by omega, by omega⟩⟩
      have HKA := Lib.hid hbka
      have HKB := Lib.hid hbkb
      clear hrl hsz hxl hlka hlkb hlka' hlkb' hda hdb p0 p1 p2 p3 q0 q1 q2 q3 c0 c1 c2 c3 c4 c5 c6 c7 c8 c9 c10 c11 cl hn hX HR HB HX hbka hbkb hne_ka_kb
      have a0 := HKA.out.cell 0 (v := .int .i64 x4) rfl
      have a1 := HKA.out.cell 1 (v := .int .i64 da) rfl
      have al := HKA.out.lt
      have af0 := HKA.out.frozen 0
      have af1 := HKA.out.frozen 1
      have b0 := HKB.out.cell 0 (v := .int .i64 x6) rfl
      have b1 := HKB.out.cell 1 (v := .int .i64 db) rfl
      have bl := HKB.out.lt
      have bf0 := HKB.out.frozen 0
      have bf1 := HKB.out.frozen 1
      have r0 := HBR.out.cell 4 (v := .int .i64 0) rfl
      have rf0 := HBR.out.frozen 4
      have r1 := HBR.out.cell 5 (v := .int .i64 0) rfl
      have rf1 := HBR.out.frozen 5
      have r2 := HBR.out.cell 6 (v := .int .i64 0) rfl
      have rf2 := HBR.out.frozen 6
      have r3 := HBR.out.cell 7 (v := .int .i64 0) rfl
      have rf3 := HBR.out.frozen 7
      have rl := HBR.out.lt
      obtain ⟨n1, n2, n3⟩ := HNE.out.2.1
      have n4 := n1.symm
      have n5 := n2.symm
      have n6 := n3.symm
      by_cases hlt : x6 * da < x4 * db
      · go_wp2_with fail
        go_roundw
        case rel =>
          have hq := HBR.out.chg (((((Chg.refl (fun b => b = ka ∨ b = kb) W5).setCell (p := ⟨ka, 0, none⟩) (.inr (.inl rfl)) (.int .i64 x6)).setCell (p := ⟨ka, 1, none⟩) (.inr (.inl rfl)) (.int .i64 db)).setCell (p := ⟨kb, 0, none⟩) (.inr (.inr rfl)) (.int .i64 x4)).setCell (p := ⟨kb, 1, none⟩) (.inr (.inr rfl)) (.int .i64 da)) (by rintro (h | h); exact HNE.out.2.1.2.1 h; exact HNE.out.2.1.2.2 h)
          obtain rfl : rb = ⟨⟨x6, db⟩, ⟨x4, da⟩⟩ := by rw [← HRK.out, ordR]; first | (rw [if_pos hlt]; done) | (rw [if_neg hlt]; done)
          have h0 : Blk _ RB #[.int .i64 ra.lo.n, .int .i64 ra.lo.d, .int .i64 ra.hi.n, .int .i64 ra.hi.d, .int .i64 x6, .int .i64 0, .int .i64 0, .int .i64 0, .int .i64 0, .int .i64 0, .int .i64 0, .int .i64 0] := hq.set 4 (.int .i64 x6)
          have h1 : Blk _ RB #[.int .i64 ra.lo.n, .int .i64 ra.lo.d, .int .i64 ra.hi.n, .int .i64 ra.hi.d, .int .i64 x6, .int .i64 db, .int .i64 0, .int .i64 0, .int .i64 0, .int .i64 0, .int .i64 0, .int .i64 0] := h0.set 5 (.int .i64 db)
          have h2 : Blk _ RB #[.int .i64 ra.lo.n, .int .i64 ra.lo.d, .int .i64 ra.hi.n, .int .i64 ra.hi.d, .int .i64 x6, .int .i64 db, .int .i64 x4, .int .i64 0, .int .i64 0, .int .i64 0, .int .i64 0, .int .i64 0] := h1.set 6 (.int .i64 x4)
          have h3 : Blk _ RB #[.int .i64 ra.lo.n, .int .i64 ra.lo.d, .int .i64 ra.hi.n, .int .i64 ra.hi.d, .int .i64 x6, .int .i64 db, .int .i64 x4, .int .i64 da, .int .i64 0, .int .i64 0, .int .i64 0, .int .i64 0] := h2.set 7 (.int .i64 da)
          have hc := (((((((((Chg.refl (fun b => b = RB ∨ b = ka ∨ b = kb) W5).setCell (p := ⟨ka, 0, none⟩) (.inr (.inr (.inl rfl))) (.int .i64 x6)).setCell (p := ⟨ka, 1, none⟩) (.inr (.inr (.inl rfl))) (.int .i64 db)).setCell (p := ⟨kb, 0, none⟩) (.inr (.inr (.inr rfl))) (.int .i64 x4)).setCell (p := ⟨kb, 1, none⟩) (.inr (.inr (.inr rfl))) (.int .i64 da)).setCell (p := ⟨RB, 4, none⟩) (.inr (.inl rfl)) (.int .i64 x6)).setCell (p := ⟨RB, 5, none⟩) (.inr (.inl rfl)) (.int .i64 db)).setCell (p := ⟨RB, 6, none⟩) (.inr (.inl rfl)) (.int .i64 x4)).setCell (p := ⟨RB, 7, none⟩) (.inr (.inl rfl)) (.int .i64 da))
          exact ⟨2, by omega, by go_num, h3, HBX.out.chg hc (by rintro (h | h | h); exact HNE.out.2.2.2.2 h; exact HNE.out.2.2.1 h; exact HNE.out.2.2.2.1 h), Chg.to_ext HX5.out hc (by rintro i (rfl | rfl | rfl); exact HRB.out.1; exact HNE.out.1.1; exact HNE.out.1.2)⟩
        case measure => simp [intOf]
      · go_wp2_with fail
        go_roundw
        case rel =>
          obtain rfl : rb = ⟨⟨x4, da⟩, ⟨x6, db⟩⟩ := by rw [← HRK.out, ordR]; first | (rw [if_pos hlt]; done) | (rw [if_neg hlt]; done)
          have h0 : Blk _ RB #[.int .i64 ra.lo.n, .int .i64 ra.lo.d, .int .i64 ra.hi.n, .int .i64 ra.hi.d, .int .i64 x4, .int .i64 0, .int .i64 0, .int .i64 0, .int .i64 0, .int .i64 0, .int .i64 0, .int .i64 0] := HBR.out.set 4 (.int .i64 x4)
          have h1 : Blk _ RB #[.int .i64 ra.lo.n, .int .i64 ra.lo.d, .int .i64 ra.hi.n, .int .i64 ra.hi.d, .int .i64 x4, .int .i64 da, .int .i64 0, .int .i64 0, .int .i64 0, .int .i64 0, .int .i64 0, .int .i64 0] := h0.set 5 (.int .i64 da)
          have h2 : Blk _ RB #[.int .i64 ra.lo.n, .int .i64 ra.lo.d, .int .i64 ra.hi.n, .int .i64 ra.hi.d, .int .i64 x4, .int .i64 da, .int .i64 x6, .int .i64 0, .int .i64 0, .int .i64 0, .int .i64 0, .int .i64 0] := h1.set 6 (.int .i64 x6)
          have h3 : Blk _ RB #[.int .i64 ra.lo.n, .int .i64 ra.lo.d, .int .i64 ra.hi.n, .int .i64 ra.hi.d, .int .i64 x4, .int .i64 da, .int .i64 x6, .int .i64 db, .int .i64 0, .int .i64 0, .int .i64 0, .int .i64 0] := h2.set 7 (.int .i64 db)
          have hc := (((((Chg.refl (fun b => b = RB ∨ b = ka ∨ b = kb) W5).setCell (p := ⟨RB, 4, none⟩) (.inr (.inl rfl)) (.int .i64 x4)).setCell (p := ⟨RB, 5, none⟩) (.inr (.inl rfl)) (.int .i64 da)).setCell (p := ⟨RB, 6, none⟩) (.inr (.inl rfl)) (.int .i64 x6)).setCell (p := ⟨RB, 7, none⟩) (.inr (.inl rfl)) (.int .i64 db))
          exact ⟨2, by omega, by go_num, h3, HBX.out.chg hc (by rintro (h | h | h); exact HNE.out.2.2.2.2 h; exact HNE.out.2.2.1 h; exact HNE.out.2.2.2.1 h), Chg.to_ext HX5.out hc (by rintro i (rfl | rfl | rfl); exact HRB.out.1; exact HNE.out.1.1; exact HNE.out.1.2)⟩
        case measure => simp [intOf]
    · rw [show ((2 : Nat) : Int) = 2 from rfl]
      go_wp2_with fail
      have c0 := HB.out.cell 0 (v := .int .u16 x0) rfl
      have c1 := HB.out.cell 1 (v := .int .u16 x1) rfl
      have c2 := HB.out.cell 2 (v := .int .u16 x2) rfl
      have c3 := HB.out.cell 3 (v := .int .u16 x3) rfl
      have c4 := HB.out.cell 4 (v := .int .u16 x4) rfl
      have c5 := HB.out.cell 5 (v := .int .u16 x5) rfl
      have c6 := HB.out.cell 6 (v := .int .u16 x6) rfl
      have c7 := HB.out.cell 7 (v := .int .u16 x7) rfl
      have c8 := HB.out.cell 8 (v := .int .u16 x8) rfl
      have c9 := HB.out.cell 9 (v := .int .u16 x9) rfl
      have c10 := HB.out.cell 10 (v := .int .u16 x10) rfl
      have c11 := HB.out.cell 11 (v := .int .u16 x11) rfl
      have cl := HB.out.lt
      have hn : ¬ (wr.heap.size ≤ XB) := by have := HB.out.lt; omega
      obtain ⟨p0, q0⟩ := H8.out
      obtain ⟨p1, q1⟩ := H9.out
      obtain ⟨p2, q2⟩ := H10.out
      obtain ⟨p3, q3⟩ := H11.out
      refine wp_region_calls (by kernel_rfl) [.no, .no, .no, .no, .no, .no, .no, .no, .no, .no, .no, .no, .no, .no, .no, .no, .no, .no, .no, .no, .no, .no, .no, .no, .no, .no, .no, .no, .no, .no, .ptr, .ptr, .any, .any] wr.heap.size (fun (c : Unit) => 0)
        (fun (c : Unit) L u => [bif L 30 then Res.blk (ptrAt (u 30)) (bif L 32 then #[.int .i64 x8, .int .i64 (1 + x9)] else #[.int .i64 0, .int .i64 0]) else Res.none, bif L 31 then Res.blk (ptrAt (u 31)) (bif L 33 then #[.int .i64 x10, .int .i64 (1 + x11)] else #[.int .i64 0, .int .i64 0]) else Res.none])
        () (by kernel_rfl) (Nat.le_of_ble_eq_true rfl) (fun c L L' u hh => by simp only [hh 30 rfl, hh 31 rfl, hh 32 rfl, hh 33 rfl]) (by simp) (fun _ => Frm.nones _ 2 wr) ?_
      intro T hT hne u hu
      obtain ⟨ka, u30⟩ : ∃ k, u 30 = .pointer (some ⟨k, 0, none⟩) := hu 30 rfl
      obtain ⟨kb, u31⟩ : ∃ k, u 31 = .pointer (some ⟨k, 0, none⟩) := hu 31 rfl
      clear hu
      refine lx_next 30 (by rfl) (by decide) ?_
      dsimp only [List.take, List.drop]
      repeat (go_big_quiet_step (fail))
      refine wpQuiet_nil ?_
      refine lx_loud (by rfl) (by kernel_rfl) ?_ (fun K hK => ?_)
      · intro L w3 hL hd hcl hC hs
        obtain ⟨y, rfl⟩ := hC
        obtain ⟨c, hmc, hs⟩ := hs
        have hzs := y.size
        have h32 := hcl.off hL 40 32 (by kernel_rfl)
        simp only [hL, h32, cond_false] at hs
        go_wp2
        exact lik_set y (Nat.le_refl _) ⟨_, rfl⟩ hs 0 (r' := Res.blk y.world.heap.size #[.int .i64 0, .int .i64 0]) rfl (((Ext.refl y.world).alloc _).chg _) (Blk.new _ _ _) (fun k hk => .inr (by rw [show k = y.world.heap.size from hk]; simp)) c hmc (by first | (simp [upd, updv, hL, h32]; done) | (simp [upd, updv, hL, h32]; rfl))
      rw [u30]
      go_simp
      with_reducible refine hK _ ?_
      clear hK K
      refine lx_loud (by rfl) (by kernel_rfl) ?_ (fun K hK => ?_)
      · intro L w3 hL hd hcl hC hs
        obtain ⟨y, rfl⟩ := hC
        obtain ⟨c, hmc, hs⟩ := hs
        have hzs := y.size
        have h33 := hcl.off hL 40 33 (by kernel_rfl)
        simp only [hL, h33, cond_false] at hs
        go_wp2
        exact lik_set y (Nat.le_refl _) ⟨_, rfl⟩ hs 1 (r' := Res.blk y.world.heap.size #[.int .i64 0, .int .i64 0]) rfl (((Ext.refl y.world).alloc _).chg _) (Blk.new _ _ _) (fun k hk => .inr (by rw [show k = y.world.heap.size from hk]; simp)) c hmc (by first | (simp [upd, updv, hL, h33]; done) | (simp [upd, updv, hL, h33]; rfl))
      rw [u31]
      go_simp
      with_reducible refine hK _ ?_
      clear hK K
      refine lx_loud (by rfl) (by kernel_rfl) ?_ (fun K hK => ?_)
      · intro L w3 hL hd hcl hC hs
        obtain ⟨y, rfl⟩ := hC
        obtain ⟨c, hmc, hs⟩ := hs
        have hzs := y.size
        have h30 := hd 30 (by kernel_rfl)
        simp only [hL, h30, cond_true, cond_false] at hs
        rw [u30] at hs
        have hb : Blk y.world ka #[.int .i64 0, .int .i64 0] := hs.get 0 rfl
        have hlt := hb.lt
        have q0 := hb.cell 0 (v := .int .i64 0) rfl
        have f0 := hb.frozen 0
        have q1 := hb.cell 1 (v := .int .i64 0) rfl
        have f1 := hb.frozen 1
        go_wp2
        exact lik_set y (Nat.le_refl _) trivial hs 0 rfl (two_chg (fun k => k = ka) _ rfl _ _ ) (r' := Res.blk ka #[.int .i64 x8, .int .i64 (1 + x9)]) (two_set hb _ _ ) (fun _ hk => .inl hk) c hmc (by first | (simp [upd, updv, hL, h30, u30, ptrAt]; done) | (simp [upd, updv, hL, h30, u30, ptrAt]; rfl))
      go_simp
      with_reducible refine hK _ ?_
      clear hK K
      refine lx_loud (by rfl) (by kernel_rfl) ?_ (fun K hK => ?_)
      · intro L w3 hL hd hcl hC hs
        obtain ⟨y, rfl⟩ := hC
        obtain ⟨c, hmc, hs⟩ := hs
        have hzs := y.size
        have h31 := hd 31 (by kernel_rfl)
        simp only [hL, h31, cond_true, cond_false] at hs
        rw [u31] at hs
        have hb : Blk y.world kb #[.int .i64 0, .int .i64 0] := hs.get 1 rfl
        have hlt := hb.lt
        have q0 := hb.cell 0 (v := .int .i64 0) rfl
        have f0 := hb.frozen 0
        have q1 := hb.cell 1 (v := .int .i64 0) rfl
        have f1 := hb.frozen 1
        go_wp2
        exact lik_set y (Nat.le_refl _) trivial hs 1 rfl (two_chg (fun k => k = kb) _ rfl _ _ ) (r' := Res.blk kb #[.int .i64 x10, .int .i64 (1 + x11)]) (two_set hb _ _ ) (fun _ hk => .inl hk) c hmc (by first | (simp [upd, updv, hL, h31, u31, ptrAt]; done) | (simp [upd, updv, hL, h31, u31, ptrAt]; rfl))
      go_simp
      with_reducible refine hK _ ?_
      clear hK K
      refine lx_nil ?_
      intro y hs
      obtain ⟨c, hmc, hs⟩ := hs
      rw [u30, u31] at hs
      have hX : Ext wr y.world := Chg.to_ext (Ext.refl wr) y.chg (by rintro i ⟨_, h⟩; exact h)
      have hmc2 : 0 ≤ y.world.heap.size := hmc
      have hbka : Blk y.world ka #[.int .i64 x8, .int .i64 (1 + x9)] := hs.get 0 rfl
      have hlka := hs.lt 0 rfl ka rfl
      have hbkb : Blk y.world kb #[.int .i64 x10, .int .i64 (1 + x11)] := hs.get 1 rfl
      have hlkb := hs.lt 1 rfl kb rfl
      have hne_ka_kb : ka ≠ kb := fun e => hs.parts 0 1 _ _ rfl rfl (by decide) ka rfl e
      clear hs  hmc hmc2 hT hne u30 u31
      generalize y.world = W5 at *
      have HX5 := Lib.hid (HX.out.trans hX)
      have HBX := Lib.hid (HB.out.ext hX)
      have HBR : Hid (Blk W5 RB #[.int .i64 ra.lo.n, .int .i64 ra.lo.d, .int .i64 ra.hi.n, .int .i64 ra.hi.d, .int .i64 rb.lo.n, .int .i64 rb.lo.d, .int .i64 rb.hi.n, .int .i64 rb.hi.d, .int .i64 0, .int .i64 0, .int .i64 0, .int .i64 0]) := Lib.hid (HR.out.ext hX)
      have hrl := HR.out.lt
      have hsz := HX.out.size
      have hxl := HB.out.lt
      have hlka' := hlka
      have hlkb' := hlkb
      have HNE : Hid ((w.heap.size ≤ ka ∧ w.heap.size ≤ kb) ∧ (ka ≠ kb ∧ RB ≠ ka ∧ RB ≠ kb) ∧ (XB ≠ ka ∧ XB ≠ kb ∧ XB ≠ RB)) := Lib.hid (by
        have h1 := HRB.out
        have h2 := HXB.out
        refine ⟨⟨by omega, by omega⟩, ⟨hne_ka_kb, by omega, by omega⟩, by omega, by omega, by omega⟩)
      obtain ⟨da, hda⟩ : ∃ y, y = 1 + x9 := ⟨_, rfl⟩
      obtain ⟨db, hdb⟩ : ∃ y, y = 1 + x11 := ⟨_, rfl⟩
      have HRK : Hid (ordR x8 da x10 db = rc) := Lib.hid (by rw [hda, hdb]; exact HRC.out)
      rw [← hda] at hbka
      rw [← hdb] at hbkb
      obtain ⟨w1, w2⟩ : wrap64 (x8 * db) = x8 * db ∧ wrap64 (x10 * da) = x10 * da := by
        have h1 : 0 ≤ x8 * db := Int.mul_nonneg p0 (by omega)
        have h2 : x8 * db ≤ 65535 * 65536 := Int.mul_le_mul q0 (by omega) (by omega) (by omega)
        have h3 : 0 ≤ x10 * da := Int.mul_nonneg p2 (by omega)
        have h4 : x10 * da ≤ 65535 * 65536 := Int.mul_le_mul q2 (by omega) (by omega) (by omega)
        exact ⟨wrap64_in' ⟨by omega, by omega⟩, wrap64_in' ⟨by omega, by omega⟩⟩
      have HKA := Lib.hid hbka
      have HKB := Lib.hid hbkb
      clear hrl hsz hxl hlka hlkb hlka' hlkb' hda hdb p0 p1 p2 p3 q0 q1 q2 q3 c0 c1 c2 c3 c4 c5 c6 c7 c8 c9 c10 c11 cl hn hX HR HB HX hbka hbkb hne_ka_kb
      have a0 := HKA.out.cell 0 (v := .int .i64 x8) rfl
      have a1 := HKA.out.cell 1 (v := .int .i64 da) rfl
      have al := HKA.out.lt
      have af0 := HKA.out.frozen 0
      have af1 := HKA.out.frozen 1
      have b0 := HKB.out.cell 0 (v := .int .i64 x10) rfl
      have b1 := HKB.out.cell 1 (v := .int .i64 db) rfl
      have bl := HKB.out.lt
      have bf0 := HKB.out.frozen 0
      have bf1 := HKB.out.frozen 1
      have r0 := HBR.out.cell 8 (v := .int .i64 0) rfl
      have rf0 := HBR.out.frozen 8
      have r1 := HBR.out.cell 9 (v := .int .i64 0) rfl
      have rf1 := HBR.out.frozen 9
      have r2 := HBR.out.cell 10 (v := .int .i64 0) rfl
      have rf2 := HBR.out.frozen 10
      have r3 := HBR.out.cell 11 (v := .int .i64 0) rfl
      have rf3 := HBR.out.frozen 11
      have rl := HBR.out.lt
      obtain ⟨n1, n2, n3⟩ := HNE.out.2.1
      have n4 := n1.symm
      have n5 := n2.symm
      have n6 := n3.symm
      by_cases hlt : x10 * da < x8 * db
      · go_wp2_with fail
        go_roundw
        case rel =>
          have hq := HBR.out.chg (((((Chg.refl (fun b => b = ka ∨ b = kb) W5).setCell (p := ⟨ka, 0, none⟩) (.inr (.inl rfl)) (.int .i64 x10)).setCell (p := ⟨ka, 1, none⟩) (.inr (.inl rfl)) (.int .i64 db)).setCell (p := ⟨kb, 0, none⟩) (.inr (.inr rfl)) (.int .i64 x8)).setCell (p := ⟨kb, 1, none⟩) (.inr (.inr rfl)) (.int .i64 da)) (by rintro (h | h); exact HNE.out.2.1.2.1 h; exact HNE.out.2.1.2.2 h)
          obtain rfl : rc = ⟨⟨x10, db⟩, ⟨x8, da⟩⟩ := by rw [← HRK.out, ordR]; first | (rw [if_pos hlt]; done) | (rw [if_neg hlt]; done)
          have h0 : Blk _ RB #[.int .i64 ra.lo.n, .int .i64 ra.lo.d, .int .i64 ra.hi.n, .int .i64 ra.hi.d, .int .i64 rb.lo.n, .int .i64 rb.lo.d, .int .i64 rb.hi.n, .int .i64 rb.hi.d, .int .i64 x10, .int .i64 0, .int .i64 0, .int .i64 0] := hq.set 8 (.int .i64 x10)
          have h1 : Blk _ RB #[.int .i64 ra.lo.n, .int .i64 ra.lo.d, .int .i64 ra.hi.n, .int .i64 ra.hi.d, .int .i64 rb.lo.n, .int .i64 rb.lo.d, .int .i64 rb.hi.n, .int .i64 rb.hi.d, .int .i64 x10, .int .i64 db, .int .i64 0, .int .i64 0] := h0.set 9 (.int .i64 db)
          have h2 : Blk _ RB #[.int .i64 ra.lo.n, .int .i64 ra.lo.d, .int .i64 ra.hi.n, .int .i64 ra.hi.d, .int .i64 rb.lo.n, .int .i64 rb.lo.d, .int .i64 rb.hi.n, .int .i64 rb.hi.d, .int .i64 x10, .int .i64 db, .int .i64 x8, .int .i64 0] := h1.set 10 (.int .i64 x8)
          have h3 : Blk _ RB #[.int .i64 ra.lo.n, .int .i64 ra.lo.d, .int .i64 ra.hi.n, .int .i64 ra.hi.d, .int .i64 rb.lo.n, .int .i64 rb.lo.d, .int .i64 rb.hi.n, .int .i64 rb.hi.d, .int .i64 x10, .int .i64 db, .int .i64 x8, .int .i64 da] := h2.set 11 (.int .i64 da)
          have hc := (((((((((Chg.refl (fun b => b = RB ∨ b = ka ∨ b = kb) W5).setCell (p := ⟨ka, 0, none⟩) (.inr (.inr (.inl rfl))) (.int .i64 x10)).setCell (p := ⟨ka, 1, none⟩) (.inr (.inr (.inl rfl))) (.int .i64 db)).setCell (p := ⟨kb, 0, none⟩) (.inr (.inr (.inr rfl))) (.int .i64 x8)).setCell (p := ⟨kb, 1, none⟩) (.inr (.inr (.inr rfl))) (.int .i64 da)).setCell (p := ⟨RB, 8, none⟩) (.inr (.inl rfl)) (.int .i64 x10)).setCell (p := ⟨RB, 9, none⟩) (.inr (.inl rfl)) (.int .i64 db)).setCell (p := ⟨RB, 10, none⟩) (.inr (.inl rfl)) (.int .i64 x8)).setCell (p := ⟨RB, 11, none⟩) (.inr (.inl rfl)) (.int .i64 da))
          exact ⟨3, by omega, by go_num, h3, HBX.out.chg hc (by rintro (h | h | h); exact HNE.out.2.2.2.2 h; exact HNE.out.2.2.1 h; exact HNE.out.2.2.2.1 h), Chg.to_ext HX5.out hc (by rintro i (rfl | rfl | rfl); exact HRB.out.1; exact HNE.out.1.1; exact HNE.out.1.2)⟩
        case measure => simp [intOf]
      · go_wp2_with fail
        go_roundw
        case rel =>
          obtain rfl : rc = ⟨⟨x8, da⟩, ⟨x10, db⟩⟩ := by rw [← HRK.out, ordR]; first | (rw [if_pos hlt]; done) | (rw [if_neg hlt]; done)
          have h0 : Blk _ RB #[.int .i64 ra.lo.n, .int .i64 ra.lo.d, .int .i64 ra.hi.n, .int .i64 ra.hi.d, .int .i64 rb.lo.n, .int .i64 rb.lo.d, .int .i64 rb.hi.n, .int .i64 rb.hi.d, .int .i64 x8, .int .i64 0, .int .i64 0, .int .i64 0] := HBR.out.set 8 (.int .i64 x8)
          have h1 : Blk _ RB #[.int .i64 ra.lo.n, .int .i64 ra.lo.d, .int .i64 ra.hi.n, .int .i64 ra.hi.d, .int .i64 rb.lo.n, .int .i64 rb.lo.d, .int .i64 rb.hi.n, .int .i64 rb.hi.d, .int .i64 x8, .int .i64 da, .int .i64 0, .int .i64 0] := h0.set 9 (.int .i64 da)
          have h2 : Blk _ RB #[.int .i64 ra.lo.n, .int .i64 ra.lo.d, .int .i64 ra.hi.n, .int .i64 ra.hi.d, .int .i64 rb.lo.n, .int .i64 rb.lo.d, .int .i64 rb.hi.n, .int .i64 rb.hi.d, .int .i64 x8, .int .i64 da, .int .i64 x10, .int .i64 0] := h1.set 10 (.int .i64 x10)
          have h3 : Blk _ RB #[.int .i64 ra.lo.n, .int .i64 ra.lo.d, .int .i64 ra.hi.n, .int .i64 ra.hi.d, .int .i64 rb.lo.n, .int .i64 rb.lo.d, .int .i64 rb.hi.n, .int .i64 rb.hi.d, .int .i64 x8, .int .i64 da, .int .i64 x10, .int .i64 db] := h2.set 11 (.int .i64 db)
          have hc := (((((Chg.refl (fun b => b = RB ∨ b = ka ∨ b = kb) W5).setCell (p := ⟨RB, 8, none⟩) (.inr (.inl rfl)) (.int .i64 x8)).setCell (p := ⟨RB, 9, none⟩) (.inr (.inl rfl)) (.int .i64 da)).setCell (p := ⟨RB, 10, none⟩) (.inr (.inl rfl)) (.int .i64 x10)).setCell (p := ⟨RB, 11, none⟩) (.inr (.inl rfl)) (.int .i64 db))
          exact ⟨3, by omega, by go_num, h3, HBX.out.chg hc (by rintro (h | h | h); exact HNE.out.2.2.2.2 h; exact HNE.out.2.2.1 h; exact HNE.out.2.2.2.1 h), Chg.to_ext HX5.out hc (by rintro i (rfl | rfl | rfl); exact HRB.out.1; exact HNE.out.1.1; exact HNE.out.1.2)⟩
        case measure => simp [intOf]
    · rw [show ((3 : Nat) : Int) = 3 from rfl]
      go_upto_if 26 with fail
      refine wp_cond_false rfl ?_
      refine wp_exit ?_
      refine b0 _ _ ?_
      exact ord_mat _ (by kernel_rfl) HK ra rb rc RB w _ HVA HVB HVC HR HX
end Go.Proofs.Ytmopadnkjlodnaa
