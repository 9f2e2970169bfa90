/-
  The laws of chapter 6: Night.tale, a visit.
-/
import Derived.Test.YtmopadnkjlodnaaNtq
import Derived.Test.YtmopadnkjlodnaaMsp
import Derived.Test.YtmopadnkjlodnaaRle
import Derived.Test.YtmopadnkjlodnaaMvk
import Derived.Deep.CutBlock
import Derived.Deep.DeepCutAuto
namespace Go.Proofs.Ytmopadnkjlodnaa
open Go.RowKit Go.BigFrame
attribute [local go_sem] Later.cell Later.frozen Lat.cell Lat.frozen NoX
set_option maxRecDepth 100000 in
set_option maxHeartbeats 16000000 in
theorem tale_visit (c : Code) (hcd : codeBlk 2 (Try.f37.body.getD .skip) = some c) (n : Nt) (ba sa ha la : Option Addr) (bc sc hc lc : Nat) (bl : List Int) (start gin gout : Int) (at_ v k4 k9 B5 : Nat) (w w5 : World) (HA : Hid (NtA n ba sa ha w)) (HB : Hid (CellsAt w .i64 la bl)) (HBB : Hid (bedsB bl = true)) (HBO : Hid (∀ b ∈ bl, BedOk b ∧ b ≠ 0)) (hbl : 1 ≤ bl.length ∧ bl.length ≤ 82) (hst : start ≤ 1001) (hgi : 0 ≤ gin ∧ gin ≤ 2) (hgo : 0 ≤ gout ∧ gout ≤ 2) (hat : at_ ≤ 1000) (hv15 : v < 15)
    (HLT : Hid (k4 = w.heap.size ∧ k4 + 1 + 1 < k9)) (HB5L : Hid (B5 ≤ w5.heap.size ∧ k9 < B5)) (HX5 : Hid (Ext w w5)) (HK4B : Hid (Blk w5 k4 #[.slice ba n.beds.length bc, .slice sa n.starts.length sc, .int .u8 n.gates, .slice ha n.hits.length hc])) (HK6B : Hid (Blk w5 (k4 + 1) #[.int .i64 start, .int .i64 gin, .int .i64 gout])) (x : Exa) (HST : Hid (StOk start gout x.left x.inn)) (xl : Int) (xi : Bool) (HXL : Hid (x.left = xl)) (HXI : Hid (x.inn = xi)) (vv : Value) (pts drt tri : Int) (HTB : Hid (0 ≤ tri ∧ tri ≤ 100))
    (HBX5 : Hid (Blk w5 k9 #[vv, .int .i64 pts, .int .i64 drt, .int .i64 tri, .bool false])) (g0 : Option Addr) (c0 : Nat) (HO5 : Hid (OwnD w5 B5 (.slice g0 0 c0) [])) {s0 s2 s5 s7 s8 s17 s18 s19 s20 s21 s22 s23 s24 s25 s26 s27 s28 s29 s30 s31 s32 s33 s34 s35 s36 s37 s38 s39 s40 s41 s42 s43 s44 s45 s46 s47 s48 s49 s50 s51 s52 s53 s54 s55 s56 s57 s58 s59 s60 s61 s62 s63 s64 s65 s66 s67 s68 s69 s70 s71 s72 s73 s74 s75 s76 s77 s78 s79 s80 s81 s82 s83 s84 s85 s86 s87 s88 s89 s90 s91 s92 s93 s94 s95 s96 s97 s98 s99 s100 s101 s102 s103 s104 s105 s106 s107 s108 s109 s110 s111 s112 s113 s114 s115 s116 s117 s118 s119 s120 s121 s122 s123 s124 s125 s126 s127 s128 s129 s130 s131 s132 s133 s134 s135 s136 s137 s138 s139 s140 s141 s142 s143 s144 s145 s146 s147 s148 s149 s150 s151 s152 s153 s154 s155 s156 s157 s158 s159 s160 s161 s162 s163 s164 s165 s166 s167 s168 s169 : Value} (Q : Exit → Act → World → Prop)
    (hQ : ∀ ⦃r16 r17 r18 r19 r35 r36 r37 r38 r39 r40 r41 r42 r43 r44 r45 r46 r47 r48 r49 r50 r51 r52 r53 r54 r55 r56 r57 r58 r59 r60 r61 r62 r63 r64 r65 r66 r67 r68 r69 r70 r71 r72 r73 r74 r75 r76 r77 r78 r79 r80 r81 r82 r83 r84 r85 r86 r87 r88 r89 r90 r91 r92 r93 r94 r95 r96 r97 r98 r99 r100 r101 r102 r103 r104 r105 r106 r107 r108 r109 r110 r111 r112 r113 r114 r115 r116 r117 r118 r119 r120 r121 r122 r123 r124 r125 r126 r127 r128 r129 r130 r131 r132 r133 r134 r135 r136 r137 r138 r139 r140 r141 r142 r143 r144 r145 r146 r147 r148 r149 : Value⦄ (bs : List Int) (r : Rv) (bv : Value) (nl : Int) (ni : Bool) (wx : World), VsE start gin gout bl x bs r → nl = (rxU x bs.length r).left → ni = (rxU x bs.length r).inn → OwnD wx B5 bv bs → Blk wx k9 #[vv, .int .i64 pts, .int .i64 drt, .int .i64 (tri + r.tried), .bool (r.eff == 1)] → Chg (fun q => q = k9 ∨ B5 ≤ q) w5 wx → Q .normal { tmps := #[s0, .slice la bl.length lc, s2, .int .i64 at_, .pointer (some ⟨k4, 0, none⟩), s5, .pointer (some ⟨k4 + 1, 0, none⟩), s7, s8, .pointer (some ⟨k9, 0, none⟩), .int .i64 nl, .bool ni, .int .i64 v, bv, .int .i64 xl, .bool xi, r16, r17, r18, r19, s20, s21, s22, s23, s24, s25, s26, s27, s28, s29, s30, s31, s32, s33, s34, r35, r36, r37, r38, r39, r40, r41, r42, r43, r44, r45, r46, r47, r48, r49, r50, r51, r52, r53, r54, r55, r56, r57, r58, r59, r60, r61, r62, r63, r64, r65, r66, r67, r68, r69, r70, r71, r72, r73, r74, r75, r76, r77, r78, r79, r80, r81, r82, r83, r84, r85, r86, r87, r88, r89, r90, r91, r92, r93, r94, r95, r96, r97, r98, r99, r100, r101, r102, r103, r104, r105, r106, r107, r108, r109, r110, r111, r112, r113, r114, r115, r116, r117, r118, r119, r120, r121, r122, r123, r124, r125, r126, r127, r128, r129, r130, r131, r132, r133, r134, r135, r136, r137, r138, r139, r140, r141, r142, r143, r144, r145, r146, r147, r148, r149, s150, s151, s152, s153, s154, s155, s156, s157, s158, s159, s160, s161, s162, s163, s164, s165, s166, s167, s168, s169], defers := [] } wx) :
    c.wp Try.prog Q { tmps := #[s0, .slice la bl.length lc, s2, .int .i64 at_, .pointer (some ⟨k4, 0, none⟩), s5, .pointer (some ⟨k4 + 1, 0, none⟩), s7, s8, .pointer (some ⟨k9, 0, none⟩), .int .i64 xl, .bool xi, .int .i64 v, .slice g0 0 c0, .int .i64 xl, .bool xi, .int .i64 0, s17, s18, s19, s20, s21, s22, s23, s24, s25, s26, s27, s28, s29, s30, s31, s32, s33, s34, s35, s36, s37, s38, s39, s40, s41, s42, s43, s44, s45, s46, s47, s48, s49, s50, s51, s52, s53, s54, s55, s56, s57, s58, s59, s60, s61, s62, s63, s64, s65, s66, s67, s68, s69, s70, s71, s72, s73, s74, s75, s76, s77, s78, s79, s80, s81, s82, s83, s84, s85, s86, s87, s88, s89, s90, s91, s92, s93, s94, s95, s96, s97, s98, s99, s100, s101, s102, s103, s104, s105, s106, s107, s108, s109, s110, s111, s112, s113, s114, s115, s116, s117, s118, s119, s120, s121, s122, s123, s124, s125, s126, s127, s128, s129, s130, s131, s132, s133, s134, s135, s136, s137, s138, s139, s140, s141, s142, s143, s144, s145, s146, s147, s148, s149, s150, s151, s152, s153, s154, s155, s156, s157, s158, s159, s160, s161, s162, s163, s164, s165, s166, s167, s168, s169], defers := [] } w5 := by
  let Q2 : Exit → Act → World → Prop := bodyPost Try.prog Try.f37 fun _ _ => True
  have HQ := Lib.hid hQ
  clear hQ
  simp only [Try.f37, Option.getD_some, codeBlk, ↓reduceIte, Nat.reduceEqDiff, Option.some.injEq] at hcd
  subst hcd
  have HI0 : Hid (VsI start gin gout bl x 0 [] ⟨xl, xi, 0, 0⟩) := Lib.hid (by rw [← HXL.out, ← HXI.out]; exact VsI.start HST.out)
  have HC50 : Hid (Chg (fun q => q = k9 ∨ B5 ≤ q) w5 w5) := Lib.hid (Chg.refl _ _)
  go_wp2_with fail
  go_loopw [10, 11, 13, 16] (fun a b c i wr => ∃ (k : Nat) (bs : List Int) (r : Rv) (bv : Value), k ≤ 3 ∧ i = .int .i64 k ∧ a = .int .i64 r.left ∧ b = .bool r.inn ∧ bv = c ∧ VsI start gin gout bl x k bs r ∧ OwnD wr B5 bv bs ∧ Blk wr k9 #[vv, .int .i64 pts, .int .i64 drt, .int .i64 (tri + r.tried), .bool false] ∧ Chg (fun q => q = k9 ∨ B5 ≤ q) w5 wr) (fun _ _ _ i _ => 3 - (intOf i).toNat)
  case atStart => exact ⟨0, [], ⟨xl, xi, 0, 0⟩, _, by omega, rfl, rfl, rfl, rfl, HI0.out, HO5.out, by simpa using HBX5.out, HC50.out⟩
  case round =>
    obtain ⟨k, bs, r, bv, hk, rfl, rfl, rfl, rfl, hV, ho, hb, hc⟩ := hrel
    obtain ⟨w6, rfl⟩ : ∃ y, y = wr := ⟨_, rfl⟩
    have HV := Lib.hid hV
    have HO6 := Lib.hid ho
    have HB6 := Lib.hid hb
    have HC6 := Lib.hid hc
    clear hV ho hb hc
    by_cases hk3 : k < 3
    case neg =>
      obtain rfl : k = 3 := by omega
      have hE := HV.out.done
      have he0 := HV.out.eff
      have hl2 : (rxU x bs.length r).left = r.left := by rw [rxU_left, if_neg (by omega)]
      have hi2 : (rxU x bs.length r).inn = r.inn := by rw [rxU_inn, if_neg (by omega)]
      have he1 : (r.eff == 1) = false := by rw [he0]; rfl
      have HFIN := Lib.hid (show VsE start gin gout bl x bs r ∧ Value.int .i64 r.left = .int .i64 (rxU x bs.length r).left ∧ Value.bool r.inn = .bool (rxU x bs.length r).inn ∧ Blk w6 k9 #[vv, .int .i64 pts, .int .i64 drt, .int .i64 (tri + r.tried), .bool (r.eff == 1)] from ⟨hE, by rw [hl2], by rw [hi2], by rw [he1]; exact HB6.out⟩)
      clear hE he0 hl2 hi2 he1
      go_wp2
      exact HQ.out bs r _ _ _ _ HFIN.out.1 (by injection HFIN.out.2.1) (by injection HFIN.out.2.2.1) HO6.out HFIN.out.2.2.2 HC6.out
    case pos =>
    obtain ⟨ga, gc, rfl⟩ := HO6.out.shape
    obtain ⟨rl, hrl⟩ : ∃ y, r.left = y := ⟨_, rfl⟩
    obtain ⟨ri, hri⟩ : ∃ y, r.inn = y := ⟨_, rfl⟩
    obtain ⟨rt, hrt⟩ : ∃ y, r.tried = y := ⟨_, rfl⟩
    have HRV : Hid (r = ⟨rl, ri, 0, rt⟩) := Lib.hid (by have := HV.out.eff; obtain ⟨a, b, c, d⟩ := r; simp only at hrl hri hrt this; subst hrl; subst hri; subst hrt; subst this; rfl)
    rw [hrl, hri]
    rw [hrt] at HB6
    have HRB : Hid ((1 ≤ rl ∧ rl ≤ start) ∧ 0 ≤ rt ∧ rt ≤ 3) := Lib.hid (by
      have h1 := HV.out.st
      have h2 := HV.out.tri
      rw [hrl] at h1
      rw [hrt] at h2
      have h3 := leastS_pos gout
      have h4 := h1.1
      have h5 := h1.2.1
      refine ⟨⟨by omega, by omega⟩, by omega, by omega⟩)
    clear hrl hri hrt
    obtain ⟨fi, hfi⟩ : ∃ y, finI gin gout bl rl ri = y := ⟨_, rfl⟩
    have HFI := Lib.hid hfi
    clear hfi
    have HCW6 : Hid (Chg (fun q => k9 ≤ q) w5 w6) := Lib.hid (HC6.out.mono (fun q _ h => by have h1 := HB5L.out; rcases h with h | h <;> omega))
    have HXW6 : Hid (Ext w w6) := Lib.hid (Chg.to_ext HX5.out HCW6.out (fun q h => by have h1 := HLT.out; have h' : k9 ≤ q := h; omega))
    have HK66 := Lib.hid (HK6B.out.chg HCW6.out (by have h := HLT.out; omega))
    have HK46 := Lib.hid (HK4B.out.chg HCW6.out (by have h := HLT.out; omega))
    have hk3' : (k : Int) < 3 := by omega
    go_upto_block 4 with fail
    go_cut [] (fun wx => Blk wx k9 #[vv, .int .i64 pts, .int .i64 drt, .int .i64 (tri + rt + fi), .bool false] ∧ Chg (· = k9) w6 wx)
    case first =>
      go_wp2_with fail
      go_loopw [17] (fun i wr => ∃ j : Nat, j ≤ bl.length ∧ i = .int .i64 j ∧ (bl.take j).any (fun b => (hitS gin gout rl ri b).2.2 == 1) = false ∧ Ext w6 wr) (fun i _ => bl.length - (intOf i).toNat)
      case atStart => exact ⟨0, Nat.zero_le _, rfl, rfl, Ext.refl _⟩
      case round =>
        obtain ⟨j, hj, rfl, hno, hx⟩ := hrel
        obtain ⟨w7, rfl⟩ : ∃ y, y = wr := ⟨_, rfl⟩
        have HNO := Lib.hid hno
        have HX7 := Lib.hid hx
        clear hno hx
        by_cases hjl : j < bl.length
        case neg =>
          obtain rfl : j = bl.length := by omega
          obtain rfl : fi = 0 := by
            rw [← HFI.out]
            refine finI_miss ?_
            have h := HNO.out
            rw [List.take_length] at h
            exact h
          go_wp2
          go_meet
          exact ⟨by simpa using HB6.out.ext HX7.out, HX7.out.chg _⟩
        case pos =>
        obtain ⟨cb, co, rfl, hcl⟩ := HB.out j hjl
        have hbo := HBO.out _ (List.getElem_mem hjl)
        have hT := any_take' (fun b => (hitS gin gout rl ri b).2.2 == 1) bl hjl HNO.out
        have hHI : ((hitS gin gout rl ri bl[j]).2.2 == 1) = true → fi = 1 := fun h => by rw [← HFI.out]; exact finI_hit (List.any_eq_true.2 ⟨_, List.getElem_mem hjl, h⟩)
        obtain ⟨b, hbe⟩ : ∃ b, bl[j] = b := ⟨_, rfl⟩
        rw [hbe] at hcl hbo hT hHI
        rw [fin_bed hbo.2] at hT hHI
        have HWT := Lib.hid (fun W => night_worth b hbo.1 W)
        have HOO := Lib.hid (fun W => night_opens gout b hgo hbo.1 W)
        have HOI := Lib.hid (fun W => night_opens gin b hgi hbo.1 W)
        have HXC7 := Lib.hid (HXW6.out.trans HX7.out)
        replace hcl := HXC7.out.cell hcl
        have hclt := lt_of_cell hcl
        simp only at hclt
        have HCL := Lib.hid hcl
        obtain ⟨wb, hwb⟩ : ∃ y, wrt b = y := ⟨_, rfl⟩
        obtain ⟨oo, hoo⟩ : ∃ y, opn gout b = y := ⟨_, rfl⟩
        obtain ⟨oi, hoi⟩ : ∃ y, opn gin b = y := ⟨_, rfl⟩
        rw [hwb] at HWT
        rw [hoo] at HOO
        rw [hoi] at HOI
        rw [hwb, hoo, hoi] at hT hHI
        obtain ⟨T, hTT⟩ : ∃ T, (wb == rl && (oo && (ri || oi))) = T := ⟨_, rfl⟩
        rw [hTT] at hT hHI
        have HTT := Lib.hid hTT
        have HT := Lib.hid hT
        have HHI := Lib.hid hHI
        clear hbe hbo hcl hwb hoo hoi hT hTT hHI
        have x0 : ∀ y : Later w7, y.world.cell? ⟨cb, co + j, none⟩ = some (.int .i64 b) := fun y => y.ext.cell HCL.out
        have c0 : ∀ y : Later w7, y.world.cell? ⟨k4 + 1, 0, none⟩ = some (.int .i64 start) := fun y => ((HK66.out.ext HX7.out).ext y.ext).cell 0 rfl
        have c1 : ∀ y : Later w7, y.world.cell? ⟨k4 + 1, 1, none⟩ = some (.int .i64 gin) := fun y => ((HK66.out.ext HX7.out).ext y.ext).cell 1 rfl
        have c2 : ∀ y : Later w7, y.world.cell? ⟨k4 + 1, 2, none⟩ = some (.int .i64 gout) := fun y => ((HK66.out.ext HX7.out).ext y.ext).cell 2 rfl
        have cl := (HK66.out.ext HX7.out).lt
        go_upto_region 12 with fail
        go_cut [72] (fun v wx => v = .bool T ∧ Ext w7 wx)
        case first =>
          cases q1 : (wb == rl)
          · obtain rfl : T = false := by rw [← HTT.out, q1]; rfl
            refine wp_region_later (by kernel_rfl) (by kernel_rfl) ?_
            repeat (go_big_quiet_step (first | with_reducible refine Calls.later (HWT.out _) | with_reducible refine Calls.later (HOO.out _) | with_reducible refine Calls.later (HOI.out _)))
            refine wpQuiet_nil ?_
            intro w8 hw8
            obtain ⟨⟨w8, hx8⟩, rfl⟩ := hw8
            go_wp2
            go_meet
            exact ⟨rfl, hx8⟩
          · cases oo
            · obtain rfl : T = false := by rw [← HTT.out, q1]; rfl
              refine wp_region_later (by kernel_rfl) (by kernel_rfl) ?_
              repeat (go_big_quiet_step (first | with_reducible refine Calls.later (HWT.out _) | with_reducible refine Calls.later (HOO.out _) | with_reducible refine Calls.later (HOI.out _)))
              refine wpQuiet_nil ?_
              intro w8 hw8
              obtain ⟨⟨w8, hx8⟩, rfl⟩ := hw8
              go_wp2
              go_meet
              exact ⟨rfl, hx8⟩
            · cases ri
              · cases oi
                · obtain rfl : T = false := by rw [← HTT.out, q1]; rfl
                  refine wp_region_later (by kernel_rfl) (by kernel_rfl) ?_
                  repeat (go_big_quiet_step (first | with_reducible refine Calls.later (HWT.out _) | with_reducible refine Calls.later (HOO.out _) | with_reducible refine Calls.later (HOI.out _)))
                  refine wpQuiet_nil ?_
                  intro w8 hw8
                  obtain ⟨⟨w8, hx8⟩, rfl⟩ := hw8
                  go_wp2
                  go_meet
                  exact ⟨rfl, hx8⟩
                · obtain rfl : T = true := by rw [← HTT.out, q1]; rfl
                  refine wp_region_later (by kernel_rfl) (by kernel_rfl) ?_
                  repeat (go_big_quiet_step (first | with_reducible refine Calls.later (HWT.out _) | with_reducible refine Calls.later (HOO.out _) | with_reducible refine Calls.later (HOI.out _)))
                  refine wpQuiet_nil ?_
                  intro w8 hw8
                  obtain ⟨⟨w8, hx8⟩, rfl⟩ := hw8
                  go_wp2
                  go_meet
                  exact ⟨rfl, hx8⟩
              · obtain rfl : T = true := by rw [← HTT.out, q1]; rfl
                refine wp_region_later (by kernel_rfl) (by kernel_rfl) ?_
                repeat (go_big_quiet_step (first | with_reducible refine Calls.later (HWT.out _) | with_reducible refine Calls.later (HOO.out _) | with_reducible refine Calls.later (HOI.out _)))
                refine wpQuiet_nil ?_
                intro w8 hw8
                obtain ⟨⟨w8, hx8⟩, rfl⟩ := hw8
                go_wp2
                go_meet
                exact ⟨rfl, hx8⟩
        case rest =>
          obtain ⟨hc1, hx8⟩ := hcut
          subst hc1
          obtain ⟨w8, rfl⟩ : ∃ y, y = wc := ⟨_, rfl⟩
          have HX8 := Lib.hid (HX7.out.trans hx8)
          clear hx8 x0 c0 c1 c2 cl hclt
          cases T
          case false =>
            go_wp2
            go_roundw
            case rel => exact ⟨j + 1, by omega, by go_num, HT.out, HX8.out⟩
            case measure => simp [intOf]; omega
          case true =>
            obtain rfl : fi = 1 := HHI.out rfl
            have hb8 := HB6.out.ext HX8.out
            have p3 := hb8.cell 3 (v := .int .i64 (tri + rt)) rfl
            have pf := hb8.frozen 3
            have pl := hb8.lt
            have HS8 := Lib.hid (hb8.set 3 (.int .i64 (tri + rt + 1)))
            have HC8 := Lib.hid ((HX8.out.chg (· = k9)).trans (cell_chg w8 k9 3 (.int .i64 (tri + rt + 1))))
            obtain ⟨tb0, tb1⟩ := HTB.out
            obtain ⟨-, rb0, rb1⟩ := HRB.out
            clear hb8
            go_wp2
            go_meet
            exact ⟨HS8.out, HC8.out⟩
    case rest =>
      obtain ⟨hb7, hc7⟩ := hcut
      obtain ⟨w7, rfl⟩ : ∃ y, y = wc := ⟨_, rfl⟩
      have HB7 := Lib.hid hb7
      have HC7 : Hid (Chg (fun q => q = k9 ∨ B5 ≤ q) w5 w7) := Lib.hid (HC6.out.trans (hc7.mono (fun q _ h => .inl h)))
      have HO7 : Hid (OwnD w7 B5 (.slice ga bs.length gc) bs) := Lib.hid (own_chg HO6.out hc7 (by
        intro q hq e
        have h1 := (World.ownsRow.lt HO6.out q hq).1
        have h2 := HB5L.out
        have h3 : q = k9 := e
        omega))
      have HXW7 : Hid (Ext w w7) := Lib.hid (Chg.to_ext HXW6.out hc7 (fun q h => by have h1 := HLT.out; have h' : q = k9 := h; omega))
      have HK67 := Lib.hid (HK66.out.chg hc7 (by have h := HLT.out; omega))
      have HK47 := Lib.hid (HK46.out.chg hc7 (by have h := HLT.out; omega))
      clear hb7 hc7
      have HLH := Lib.hid HA.out.lh
      have h3 := HK47.out.cell 3 (v := .slice ha n.hits.length hc) rfl
      have hl := HK47.out.lt
      go_upto_if 80 with fail
      go_cut [19] (fun h wx => ∃ m : Nat, h = .int .i64 m ∧ m ≤ 255 ∧ Ext w7 wx)
      case first =>
        by_cases hh : 0 < n.hits.length
        case neg =>
          have h0 : ¬ (0 : Int) < (n.hits.length : Int) := by omega
          go_wp2
          go_meet
          exact ⟨0, rfl, by omega, Ext.refl _⟩
        case pos =>
        obtain ⟨s, hs⟩ : ∃ s : Nat, at_ + 7 * v + k = s := ⟨_, rfl⟩
        have hlt : s % n.hits.length < n.hits.length := Nat.mod_lt _ hh
        obtain ⟨hb0, ho0, rfl, hcl⟩ := HA.out.hits _ hlt
        have hbnd := HA.out.ih _ (List.getElem_mem hlt)
        obtain ⟨y, hye⟩ : ∃ y : Int, n.hits[s % n.hits.length] = y := ⟨_, rfl⟩
        rw [hye] at hcl hbnd
        obtain ⟨m, rfl⟩ : ∃ m : Nat, y = (m : Int) := ⟨y.toNat, by omega⟩
        replace hcl := HXW7.out.cell hcl
        have hclt := lt_of_cell hcl
        simp only at hclt
        have hm : m ≤ 255 := by omega
        clear hye hbnd
        have h0 : (0 : Int) < (n.hits.length : Int) := by omega
        go_upto_region 16 with fail
        have hsum : (at_ : Int) + 7 * (v : Int) + (k : Int) = (s : Int) := by omega
        have hml : n.hits.length ≤ maxLen := HLH.out
        unfold maxLen at hml
        have a3 : ∀ y : Later w7, y.world.cell? ⟨k4, 3, none⟩ = some (.slice (some ⟨hb0, ho0, none⟩) n.hits.length hc) := fun y => y.ext.cell h3
        have a4 : ∀ y : Later w7, y.world.cell? ⟨hb0, ho0 + s % n.hits.length, none⟩ = some (.int .u8 m) := fun y => y.ext.cell hcl
        refine wp_region_later (by kernel_rfl) (by kernel_rfl) ?_
        repeat (go_big_quiet_step (fail))
        refine wpQuiet_nil ?_
        intro w8 hw8
        obtain ⟨⟨w8, hx8⟩, rfl⟩ := hw8
        go_wp2
        go_meet
        exact ⟨m, rfl, hm, hx8⟩
      case rest =>
      obtain ⟨m, hc1, hm, hx8⟩ := hcut
      subst hc1
      obtain ⟨w8, rfl⟩ : ∃ y, y = wc := ⟨_, rfl⟩
      have HB8' := Lib.hid (HB7.out.ext hx8)
      have HC8 := Lib.hid (HC7.out.trans (hx8.chg _))
      have HO8 := Lib.hid (OwnD.ext HO7.out hx8)
      have HXW8 := Lib.hid (HXW7.out.trans hx8)
      have HK68 := Lib.hid (HK67.out.ext hx8)
      clear hx8 h3 hl HB7 HC7 HO7
      go_upto_if 97 with fail
      go_cut [18] (fun d wx => ∃ b : Int, d = .int .i64 b ∧ (b = 0 ∨ b ∈ bl) ∧ wx = w8)
      case first =>
        by_cases h30 : 30 ≤ m
        case neg =>
          go_wp2
          go_meet
          exact ⟨0, rfl, .inl rfl, rfl⟩
        case pos =>
        have hlt : m % bl.length < bl.length := Nat.mod_lt _ (by omega)
        obtain ⟨cb, co, rfl, hcl⟩ := HB.out _ hlt
        have hmem := List.getElem_mem hlt
        obtain ⟨b, hbe⟩ : ∃ b, bl[m % bl.length] = b := ⟨_, rfl⟩
        rw [hbe] at hcl hmem
        replace hcl := HXW8.out.cell hcl
        have hclt := lt_of_cell hcl
        simp only at hclt
        have HMEM := Lib.hid hmem
        clear hbe hmem
        go_wp2
        go_meet
        exact ⟨b, rfl, .inr HMEM.out, rfl⟩
      case rest =>
      obtain ⟨b, hc1, hb0, hc2⟩ := hcut
      subst hc1
      subst hc2
      rename World => w8
      have hbo : BedOk b := by
        rcases hb0 with h | h
        · exact .inl h
        · exact (HBO.out b h).1
      have HBM := Lib.hid hb0
      have HBOK := Lib.hid hbo
      have HWT := Lib.hid (fun W => night_worth b hbo W)
      have HOO := Lib.hid (fun W => night_opens gout b hgo hbo W)
      have HOI := Lib.hid (fun W => night_opens gin b hgi hbo W)
      have HWB : Hid (0 ≤ wrt b ∧ wrt b ≤ 400) := Lib.hid (by have := hbo.wrt; omega)
      clear hb0 hbo
      have HLB : Hid (bs.length = k) := Lib.hid HV.out.len
      have HOA := Lib.hid (HO8.out.ext ((Ext.refl w8).alloc (.cells #[.int .i64 b] 99)))
      have hsz5 : B5 ≤ w8.heap.size := by have h1 := HB5L.out; have h2 := HC8.out.size; omega
      go_wp2_with (at_builtin; refine wp_append_from rfl _ _ 25 99 _ 1 8 rfl info_bed (by kernel_rfl) rfl (by decide) B5 (.slice ga bs.length gc) bs.length _ rfl HOA.out (some ⟨w8.heap.size, 0, none⟩) 1 1 [.int .i64 b] rfl (fun h => by cases h) rfl ?_ ?_ (by have := HLB.out; omega) (by omega) (by simp; omega) ?_)
      any_goals first
        | rfl
        | (intro u hu; rw [List.mem_singleton.1 hu]; rfl)
        | (intro ad had j u hj
           cases had
           match j, hj with
           | 0, hj => cases hj; rw [addr_add]; exact (Blk.new w8 _ _).cell 0 rfl)
      intro v10 w10 hO10 hg10 hn10
      have hch : Chg (fun q => (Value.slice ga bs.length gc).ownBlock = some q) w8 w10 := (((Ext.refl w8).alloc (.cells #[.int .i64 b] 99)).chg _).trans hg10
      obtain ⟨bs2, hbs2⟩ : ∃ l, bs ++ [b] = l := ⟨_, rfl⟩
      have HO10 : Hid (OwnD w10 B5 v10 bs2) := Lib.hid (by rw [← hbs2]; unfold OwnD; rw [List.length_append, List.map_append]; exact hO10)
      have HBS := Lib.hid hbs2
      clear hbs2
      obtain ⟨gb, gd, rfl⟩ := HO10.out.shape
      have hown : ∀ q, (Value.slice ga bs.length gc).ownBlock = some q → B5 ≤ q := fun q hq => (World.ownsRow.lt HO8.out q hq).1
      have HB10 := Lib.hid (HB8'.out.chg hch (fun e => by have h1 := hown k9 e; have h2 := HB5L.out; omega))
      have HC10 : Hid (Chg (fun q => q = k9 ∨ B5 ≤ q) w5 w10) := Lib.hid (HC8.out.trans (hch.mono (fun q _ h => .inr (hown q h))))
      have HK610 := Lib.hid (HK68.out.chg hch (fun e => by have h1 := hown _ e; have h2 := HB5L.out; have h3 := HLT.out; omega))
      clear hO10 hg10 hn10 hch hown hsz5 HB8' HC8 HO8 HK68 HOA
      obtain ⟨wb, hwb⟩ : ∃ y, wrt b = y := ⟨_, rfl⟩
      rw [hwb] at HWT HWB
      have HWE := Lib.hid hwb
      obtain ⟨oo, hoo⟩ : ∃ y, opn gout b = y := ⟨_, rfl⟩
      rw [hoo] at HOO
      have HOOE := Lib.hid hoo
      obtain ⟨oi, hoi⟩ : ∃ y, opn gin b = y := ⟨_, rfl⟩
      rw [hoi] at HOI
      have HOIE := Lib.hid hoi
      clear hwb hoo hoi
      obtain ⟨z, hz⟩ : ∃ z, (b == 0) = z := ⟨_, rfl⟩
      have HZ : Hid (skB gin ri b = (z || (!ri && !oi))) := Lib.hid (by rw [← hz, ← HOIE.out]; rfl)
      have q1 := HK610.out.cell 1 (v := .int .i64 gin) rfl
      have ql := HK610.out.lt
      go_upto_region 20 with fail
      go_cut [121] (fun v wx => v = .bool (z || (!ri && !oi)) ∧ Ext w10 wx)
      case first =>
        cases z
        · cases ri
          · go_wp2_with fail
            refine (HOI.out _).mono ?_
            rintro e w11 ⟨rfl, hx11⟩
            go_wp2
            go_meet
            exact ⟨rfl, hx11⟩
          · go_wp2
            go_meet
            exact ⟨rfl, Ext.refl _⟩
        · go_wp2
          go_meet
          exact ⟨rfl, Ext.refl _⟩
      case rest =>
      obtain ⟨hc1, hx11⟩ := hcut
      subst hc1
      obtain ⟨w11, rfl⟩ : ∃ y, y = wc := ⟨_, rfl⟩
      have HB11 := Lib.hid (HB10.out.ext hx11)
      have HC11 := Lib.hid (HC10.out.trans (hx11.chg _))
      have HO11 := Lib.hid (OwnD.ext HO10.out hx11)
      have HK611 := Lib.hid (HK610.out.ext hx11)
      clear hx11 q1 ql hz HB10 HC10 HO10 HK610
      rw [← HZ.out]
      cases hsk : skB gin ri b
      case true =>
        have HVN := Lib.hid (HV.out.on (r' := ⟨rl, ri, 0, rt + finI gin gout bl rl ri⟩) HBB.out hk3 HBM.out HBOK.out (by rw [HRV.out]; exact rvN_skip hsk) rfl)
        rw [HBS.out] at HVN
        have HBN : Hid (Blk w11 k9 #[vv, .int .i64 pts, .int .i64 drt, .int .i64 (tri + (rt + finI gin gout bl rl ri)), .bool false]) := Lib.hid (by rw [HFI.out, ← Int.add_assoc]; exact HB11.out)
        clear hsk
        go_wp2
        go_roundw
        case rel => exact ⟨k + 1, bs2, _, _, by omega, by go_num, rfl, rfl, rfl, HVN.out, HO11.out, HBN.out, HC11.out⟩
        case measure => simp [intOf]; omega
      case false =>
      have HSK := Lib.hid hsk
      clear hsk
      obtain ⟨⟨rl1, rl2⟩, -, -⟩ := HRB.out
      obtain ⟨wb0, wb1⟩ := HWB.out
      have p4 := HB11.out.cell 4 (v := .bool false) rfl
      have pl := HB11.out.lt
      have q2 := HK611.out.cell 2 (v := .int .i64 gout) rfl
      have ql := HK611.out.lt
      go_wp2_with fail
      refine (HWT.out _).mono ?_
      rintro e w12 ⟨rfl, hx12⟩
      have HB12 := Lib.hid (HB11.out.ext hx12)
      have HC12 := Lib.hid (HC11.out.trans (hx12.chg _))
      have HO12 := Lib.hid (OwnD.ext HO11.out hx12)
      replace p4 := hx12.cell p4
      replace pl := Nat.lt_of_lt_of_le pl hx12.size
      replace q2 := hx12.cell q2
      replace ql := Nat.lt_of_lt_of_le ql hx12.size
      have pf := HB12.out.frozen 4
      clear hx12 HB11 HC11 HO11 HK611
      have hsub : wrap64 (rl - wb) = rl - wb := wrap64_in' ⟨by omega, by omega⟩
      go_upto_region 22 with fail
      clear hsub
      obtain ⟨nl, hnl⟩ : ∃ y, rl - wb = y := ⟨_, rfl⟩
      rw [hnl]
      have HNL := Lib.hid hnl
      have HWN : Hid (wnB gout nl b = (nl == 0 && oo)) := Lib.hid (by rw [← HOOE.out]; rfl)
      clear hnl
      go_cut [133] (fun v wx => v = .bool (nl == 0 && oo) ∧ Blk wx k9 #[vv, .int .i64 pts, .int .i64 drt, .int .i64 (tri + rt + fi), .bool (nl == 0 && oo)] ∧ Chg (· = k9) w12 wx)
      case first =>
        cases q : (nl == 0)
        · have HS := Lib.hid (HB12.out.set 4 (.bool false))
          have HC := Lib.hid (cell_chg w12 k9 4 (.bool false))
          have HQ := Lib.hid q
          go_wp2
          go_meet
          exact ⟨by rw [HQ.out]; rfl, by rw [HQ.out]; exact HS.out, HC.out⟩
        · go_wp2_with fail
          refine (HOO.out _).mono ?_
          rintro e w13 ⟨rfl, hx13⟩
          have HS := Lib.hid ((HB12.out.ext hx13).set 4 (.bool oo))
          have HC := Lib.hid ((hx13.chg (· = k9)).trans (cell_chg w13 k9 4 (.bool oo)))
          replace p4 := hx13.cell p4
          replace pl := Nat.lt_of_lt_of_le pl hx13.size
          replace pf := (HB12.out.ext hx13).frozen 4
          have HQ := Lib.hid q
          clear hx13
          go_wp2
          go_meet
          exact ⟨by rw [HQ.out]; rfl, by rw [HQ.out]; exact HS.out, HC.out⟩
      case rest =>
      obtain ⟨hc1, hb13, hc13⟩ := hcut
      subst hc1
      obtain ⟨w13, rfl⟩ : ∃ y, y = wc := ⟨_, rfl⟩
      rw [← HWN.out] at hb13
      rw [← HWN.out]
      have HC13 : Hid (Chg (fun q => q = k9 ∨ B5 ≤ q) w5 w13) := Lib.hid (HC12.out.trans (hc13.mono (fun q _ h => .inl h)))
      have HO13 : Hid (OwnD w13 B5 (.slice gb bs2.length gd) bs2) := Lib.hid (own_chg HO12.out hc13 (by
        intro q hq e
        have h1 := (World.ownsRow.lt HO12.out q hq).1
        have h2 := HB5L.out
        have h3 : q = k9 := e
        omega))
      have HB13 := Lib.hid hb13
      replace q2 := hc13.cell q2 (by have h := HLT.out; show ¬ k4 + 1 = k9; omega)
      replace ql := Nat.lt_of_lt_of_le ql hc13.size
      clear hb13 hc13 HB12 HC12 HO12 p4 pl pf
      cases hwn : wnB gout nl b
      case true =>
        rw [hwn] at HB13
        have hE := HV.out.off (r' := ⟨0, true, 1, rt + finI gin gout bl rl ri⟩) hk3 HBM.out HBOK.out (by rw [HRV.out]; exact rvN_win HSK.out (by rw [HWE.out, HNL.out]; exact hwn)) (.inl ⟨rfl, rfl, rfl⟩)
        rw [HBS.out] at hE
        have hn0 : nl = 0 := by unfold wnB at hwn; simp only [Bool.and_eq_true, beq_iff_eq] at hwn; exact hwn.1
        have HFIN := Lib.hid (show VsE start gin gout bl x bs2 ⟨0, true, 1, rt + finI gin gout bl rl ri⟩ ∧ Value.int .i64 nl = .int .i64 (rxU x bs2.length ⟨0, true, 1, rt + finI gin gout bl rl ri⟩).left ∧ Value.bool true = .bool (rxU x bs2.length ⟨0, true, 1, rt + finI gin gout bl rl ri⟩).inn ∧ Blk w13 k9 #[vv, .int .i64 pts, .int .i64 drt, .int .i64 (tri + (rt + finI gin gout bl rl ri)), .bool true] from
          ⟨hE, by rw [rxU_left, if_neg (show ¬ (1 : Int) = 2 by decide), hn0], by rw [rxU_inn, if_neg (show ¬ (1 : Int) = 2 by decide)], by rw [HFI.out, ← Int.add_assoc]; exact HB13.out⟩)
        have p4 := HB13.out.cell 4 (v := .bool true) rfl
        have pl := HB13.out.lt
        clear hE hn0 hwn
        go_wp2
        exact HQ.out bs2 _ _ _ _ _ HFIN.out.1 (by injection HFIN.out.2.1) (by injection HFIN.out.2.2.1) HO13.out HFIN.out.2.2.2 HC13.out
      case false =>
      rw [hwn] at HB13
      have HWF := Lib.hid hwn
      have p4 := HB13.out.cell 4 (v := .bool false) rfl
      have pl := HB13.out.lt
      clear hwn
      go_upto_region 24 with fail
      go_cut [147] (fun v wx => v = .bool (bsB gout nl) ∧ wx = w13)
      case first =>
        cases q1 : decide (nl < 2)
        · go_wp2
          go_meet
          exact ⟨by simp [bsB, q1], rfl⟩
        · cases q2 : (nl != 1)
          · cases q3 : (gout != 0)
            · go_wp2
              go_meet
              exact ⟨by simp [bsB, q1, q2, q3], rfl⟩
            · go_wp2
              go_meet
              exact ⟨by simp [bsB, q1, q2, q3], rfl⟩
          · go_wp2
            go_meet
            exact ⟨by simp [bsB, q1, q2], rfl⟩
      case rest =>
      obtain ⟨hc1, hc2⟩ := hcut
      subst hc1
      subst hc2
      rename World => w13
      cases hbs : bsB gout nl
      case true =>
        have hE := HV.out.off (r' := ⟨rl, ri, 2, rt + finI gin gout bl rl ri⟩) hk3 HBM.out HBOK.out (by rw [HRV.out]; exact rvN_bust HSK.out (by rw [HWE.out, HNL.out]; exact HWF.out) (by rw [HWE.out, HNL.out]; exact hbs)) (.inr rfl)
        rw [HBS.out] at hE
        have HFIN := Lib.hid (show VsE start gin gout bl x bs2 ⟨rl, ri, 2, rt + finI gin gout bl rl ri⟩ ∧ Value.int .i64 xl = .int .i64 (rxU x bs2.length ⟨rl, ri, 2, rt + finI gin gout bl rl ri⟩).left ∧ Value.bool xi = .bool (rxU x bs2.length ⟨rl, ri, 2, rt + finI gin gout bl rl ri⟩).inn ∧ Blk w13 k9 #[vv, .int .i64 pts, .int .i64 drt, .int .i64 (tri + (rt + finI gin gout bl rl ri)), .bool false] from
          ⟨hE, by rw [rxU_left, if_pos rfl, HXL.out], by rw [rxU_inn, if_pos rfl, HXI.out], by rw [HFI.out, ← Int.add_assoc]; exact HB13.out⟩)
        clear hE hbs
        go_wp2
        exact HQ.out bs2 _ _ _ _ _ HFIN.out.1 (by injection HFIN.out.2.1) (by injection HFIN.out.2.2.1) HO13.out HFIN.out.2.2.2 HC13.out
      case false =>
        have HVN := Lib.hid (HV.out.on (r' := ⟨nl, true, 0, rt + finI gin gout bl rl ri⟩) HBB.out hk3 HBM.out HBOK.out (by rw [HRV.out, rvN_on HSK.out (by rw [HWE.out, HNL.out]; exact HWF.out) (by rw [HWE.out, HNL.out]; exact hbs), HWE.out, HNL.out]) rfl)
        rw [HBS.out] at HVN
        have HBN : Hid (Blk w13 k9 #[vv, .int .i64 pts, .int .i64 drt, .int .i64 (tri + (rt + finI gin gout bl rl ri)), .bool false]) := Lib.hid (by rw [HFI.out, ← Int.add_assoc]; exact HB13.out)
        clear hbs
        go_wp2
        go_roundw
        case rel => exact ⟨k + 1, bs2, _, _, by omega, by go_num, rfl, rfl, rfl, HVN.out, HO13.out, HBN.out, HC13.out⟩
        case measure => simp [intOf]; omega
end Go.Proofs.Ytmopadnkjlodnaa
