/-
  BoardPlans, from the errors of the first week on.
-/
import Derived.Test.YtlkbbcfbnbnagaaGreatRwf
import Derived.Test.YtlkbbcfbnbnagaaGreatLbb
import Derived.Deep.CutBlock
namespace Go.Proofs.YtlkbbcfbnbnagaaGreat
open Go.RowKit Go.BigFrame
attribute [local go_sem] Later.cell Later.frozen Lat.cell Lat.frozen
theorem Ext.ext {a b c : World} (h : Ext a b) (k : Ext b c) : Ext a c := h.trans k
set_option maxRecDepth 100000 in
set_option maxHeartbeats 16000000 in
theorem plans_tail (c : Code) (hc : codeSeq 27 (Tryz.f3.body.getD .skip) = some c) (a1 a2 a3 : Option Addr) (a4 a5 a6 : Nat) (b : Brd) (worn wk : List Int) (wks : List (List Int)) (turn lim la le : Int) (wa ka ua : Option Addr) (wc kc uc : Nat) (w wt : World)
    (HX : Hid (Ext w wt)) (HE0 : Hid (errB b = 0)) (HNL : Hid (0 < b.nums.length ∧ b.nums.length ≤ 20)) (_HL1 : Hid (worn.length ≤ 25)) (HLR : Hid (lastR b worn wk lim = (la, le)))
    (HW : Hid (CellsAt w .i64 wa worn)) (HU : Hid (CellsAt w .i64 ua wk)) (HUN : Hid (ua = none → wk.length = 0 ∧ uc = 0))
    (HWK : Hid (∀ W, Ext w W → Calls Tryz.prog 13 #[.agg #[.slice wa worn.length wc, .slice ka wks.length kc, .int .i64 turn, .int .i64 lim]] W fun e w' => e = .returned (.slice ua wk.length uc) ∧ Ext W w'))
    (HBB : Hid (Blk wt w.heap.size #[.int .i64 b.eye, .int .i64 b.bull, .slice a1 b.rings.length a4, .slice a2 b.lines.length a5, .slice a3 b.nums.length a6, .int .i64 b.wire])) (HBX : Hid (Blk wt (w.heap.size + 1) #[.slice wa worn.length wc, .slice ka wks.length kc, .int .i64 turn, .int .i64 lim]))
    {s0 s1 s4 s5 s6 s7 s8 s9 s12 s13 s16 s17 s18 s19 s20 s21 s22 s23 s24 s25 s26 s27 s28 s29 s30 s31 s32 s33 s34 s35 s36 s37 s38 s39 s40 s41 s42 s43 s44 s45 s46 s47 s48 s49 s50 s51 s52 s53 s54 s55 s56 s57 s58 s59 s60 s61 s62 s63 s64 s65 s66 s67 s68 s69 s70 s71 s72 s73 s74 s75 s76 s77 s78 s79 s80 s81 s82 s83 s84 s85 s86 s87 s88 s89 s90 s91 s92 s93 s94 s95 s96 s97 s98 s99 s100 s101 s102 s103 s104 s105 s106 s107 s108 s109 s110 s111 s112 s113 s114 s115 s116 s117 s118 s119 s120 s121 s122 s123 s124 s125 s126 s127 s128 s129 s130 s131 s132 s133 s134 s135 s136 s137 s138 s139 s140 s141 s142 s143 s144 s145 s146 s147 s148 s149 s150 s151 s152 s153 s154 s155 s156 s157 s158 s159 s160 s161 s162 s163 s164 s165 s166 s167 s168 s169 s170 s171 s172 s173 s174 s175 s176 s177 s178 s179 s180 s181 s182 s183 s184 s185 s186 s187 s188 s189 s190 s191 s192 s193 s194 s195 s196 s197 s198 s199 s200 s201 s202 s203 s204 s205 s206 s207 s208 s209 s210 s211 s212 s213 s214 s215 s216 s217 s218 s219 s220 s221 s222 s223 s224 s225 s226 s227 : Value} :
    c.wp Tryz.prog (bodyPost Tryz.prog Tryz.f3 fun e w' => e = .returned (.bool true) ∧ Ext w w')
      { tmps := #[s0, s1, .pointer (some ⟨w.heap.size, 0, none⟩), .pointer (some ⟨w.heap.size + 1, 0, none⟩), s4, s5, s6, s7, s8, s9, .int .i64 la, .int .i64 le, s12, s13, .int .i64 b.nums.length, .int .i64 0, s16, s17, s18, s19, s20, s21, s22, s23, s24, s25, s26, s27, s28, s29, s30, s31, s32, s33, s34, s35, s36, s37, s38, s39, s40, s41, s42, s43, s44, s45, s46, s47, s48, s49, s50, s51, s52, s53, s54, s55, s56, s57, s58, s59, s60, s61, s62, s63, s64, s65, s66, s67, s68, s69, s70, s71, s72, s73, s74, s75, s76, s77, s78, s79, s80, s81, s82, s83, s84, s85, s86, s87, s88, s89, s90, s91, s92, s93, s94, s95, s96, s97, s98, s99, s100, s101, s102, s103, s104, s105, s106, s107, s108, s109, s110, s111, s112, s113, s114, s115, s116, s117, s118, s119, s120, s121, s122, s123, s124, s125, s126, s127, s128, s129, s130, s131, s132, s133, s134, s135, s136, s137, s138, s139, s140, s141, s142, s143, s144, s145, s146, s147, s148, s149, s150, s151, s152, s153, s154, s155, s156, s157, s158, s159, s160, s161, s162, s163, s164, s165, s166, s167, s168, s169, s170, s171, s172, s173, s174, s175, s176, s177, s178, s179, s180, s181, s182, s183, s184, s185, s186, s187, s188, s189, s190, s191, s192, s193, s194, s195, s196, s197, s198, s199, s200, s201, s202, s203, s204, s205, s206, s207, s208, s209, s210, s211, s212, s213, s214, s215, s216, s217, s218, s219, s220, s221, s222, s223, s224, s225, s226, s227], defers := [] } wt := by
  simp only [Tryz.f3, Option.getD_some, codeSeq, ↓reduceIte, Nat.reduceEqDiff, Option.some.injEq] at hc
  subst hc
  have HKN := Lib.hid (fun W => law_known W)
  obtain ⟨fm, hfm⟩ : ∃ x, formB b.nums.length worn [wk] = x := ⟨_, rfl⟩
  have HFM := Lib.hid hfm
  have HFO : Hid (∀ W k, Ext w W → WkC W (some ⟨k, 0, none⟩) [wk] → Calls Tryz.prog 16 #[.int .i64 b.nums.length, .slice wa worn.length wc, .slice (some ⟨k, 0, none⟩) 1 1] W fun e w' => e = .returned (.int .i64 fm) ∧ Ext W w') :=
    Lib.hid (fun W k hX h => by rw [← hfm]; exact ref_form b.nums.length worn [wk] wa (some ⟨k, 0, none⟩) wc 1 W (HW.out.ext hX) h (by have := HNL.out; omega) (by simp))
  clear hfm
  have m0 := HBB.out.cell 0 (v := .int .i64 b.eye) rfl
  have m1 := HBB.out.cell 1 (v := .int .i64 b.bull) rfl
  have m2 := HBB.out.cell 2 (v := .slice a1 b.rings.length a4) rfl
  have m3 := HBB.out.cell 3 (v := .slice a2 b.lines.length a5) rfl
  have m4 := HBB.out.cell 4 (v := .slice a3 b.nums.length a6) rfl
  have m5 := HBB.out.cell 5 (v := .int .i64 b.wire) rfl
  have ml := HBB.out.lt
  have n0 := HBX.out.cell 0 (v := .slice wa worn.length wc) rfl
  have n1 := HBX.out.cell 1 (v := .slice ka wks.length kc) rfl
  have n2 := HBX.out.cell 2 (v := .int .i64 turn) rfl
  have n3 := HBX.out.cell 3 (v := .int .i64 lim) rfl
  have nl := HBX.out.lt
  go_upto_region 28 with fail
  clear m0 m1 m2 m3 m4 m5 ml n0 n1 n2 n3 nl
  have m0 : ∀ y : Lat NoX wt, y.world.cell? ⟨w.heap.size, 0, none⟩ = some (.int .i64 b.eye) := fun y => (HBB.out.ext (Lat.ext0 y)).cell 0 rfl
  have m1 : ∀ y : Lat NoX wt, y.world.cell? ⟨w.heap.size, 1, none⟩ = some (.int .i64 b.bull) := fun y => (HBB.out.ext (Lat.ext0 y)).cell 1 rfl
  have m2 : ∀ y : Lat NoX wt, y.world.cell? ⟨w.heap.size, 2, none⟩ = some (.slice a1 b.rings.length a4) := fun y => (HBB.out.ext (Lat.ext0 y)).cell 2 rfl
  have m3 : ∀ y : Lat NoX wt, y.world.cell? ⟨w.heap.size, 3, none⟩ = some (.slice a2 b.lines.length a5) := fun y => (HBB.out.ext (Lat.ext0 y)).cell 3 rfl
  have m4 : ∀ y : Lat NoX wt, y.world.cell? ⟨w.heap.size, 4, none⟩ = some (.slice a3 b.nums.length a6) := fun y => (HBB.out.ext (Lat.ext0 y)).cell 4 rfl
  have m5 : ∀ y : Lat NoX wt, y.world.cell? ⟨w.heap.size, 5, none⟩ = some (.int .i64 b.wire) := fun y => (HBB.out.ext (Lat.ext0 y)).cell 5 rfl
  have ml := HBB.out.lt
  have n0 : ∀ y : Lat NoX wt, y.world.cell? ⟨(w.heap.size + 1), 0, none⟩ = some (.slice wa worn.length wc) := fun y => (HBX.out.ext (Lat.ext0 y)).cell 0 rfl
  have n1 : ∀ y : Lat NoX wt, y.world.cell? ⟨(w.heap.size + 1), 1, none⟩ = some (.slice ka wks.length kc) := fun y => (HBX.out.ext (Lat.ext0 y)).cell 1 rfl
  have n2 : ∀ y : Lat NoX wt, y.world.cell? ⟨(w.heap.size + 1), 2, none⟩ = some (.int .i64 turn) := fun y => (HBX.out.ext (Lat.ext0 y)).cell 2 rfl
  have n3 : ∀ y : Lat NoX wt, y.world.cell? ⟨(w.heap.size + 1), 3, none⟩ = some (.int .i64 lim) := fun y => (HBX.out.ext (Lat.ext0 y)).cell 3 rfl
  have nl := HBX.out.lt
  refine wp_region_ext (by kernel_rfl) [.no, .no, .no, .no, .val (.slice ua wk.length uc), .wk1 wk, .val (.int .i64 fm)] (by kernel_rfl) (Nat.le_of_ble_eq_true rfl) ?_
  intro T hT hne u hu
  have u4 : u 4 = .slice ua wk.length uc := hu 4 rfl
  obtain ⟨k28, u5⟩ : WkS (u 5) := hu 5 rfl
  have u6 : u 6 = .int .i64 fm := hu 6 rfl
  clear hu
  refine lx_next 4 (by rfl) (by decide) ?_
  dsimp only [List.take, List.drop]
  repeat (go_big_quiet_step (fail))
  refine wpQuiet_nil ?_
  refine lx_loud (by rfl) (by kernel_rfl) ?_ (fun K hK => ?_)
  · intro L w3 hL hd hcl hC hs
    obtain ⟨y, rfl⟩ := hC
    have hxy := Lat.ext0 y

    go_wp2_with fail
    refine (HWK.out _ (HX.out.trans hxy)).mono ?_
    rintro e w' ⟨rfl, hx⟩
    have HRK := Lib.hid (rik_call (i := 4) y hs rfl hx trivial)
    clear hs
    go_wp2
    exact HRK.out
  rw [u4]
  go_simp
  with_reducible refine hK _ ?_
  clear hK K
  refine lx_loud (by rfl) (by kernel_rfl) ?_ (fun K hK => ?_)
  · intro L w3 hL hd hcl hC hs
    obtain ⟨y, rfl⟩ := hC
    have hxy := Lat.ext0 y

    have HRK := Lib.hid (rik_call (i := 5) y hs (w' := y.world.alloc (.cells #[.slice ua wk.length uc] 24)) (v := .slice (some ⟨y.world.heap.size, 0, none⟩) 1 1) ⟨_, rfl⟩ ((Ext.refl _).alloc _) ⟨_, rfl, WkC.one (HU.out.ext (HX.out.trans hxy)) HUN.out _ rfl⟩)
    clear hs
    go_wp2
    exact HRK.out
  rw [u5]
  go_simp
  with_reducible refine hK _ ?_
  clear hK K
  refine lx_loud (by rfl) (by kernel_rfl) ?_ (fun K hK => ?_)
  · intro L w3 hL hd hcl hC hs
    obtain ⟨y, rfl⟩ := hC
    have hxy := Lat.ext0 y
    have h5 := hs 5 rfl (hd 5 (by kernel_rfl))
    rw [u5] at h5
    go_wp2_with fail
    refine (HFO.out _ _ (HX.out.trans hxy) (wk1_at h5)).mono ?_
    rintro e w' ⟨rfl, hx⟩
    have HRK := Lib.hid (rik_call (i := 6) y hs rfl hx trivial)
    clear hs
    go_wp2
    exact HRK.out
  rw [u6]
  go_simp
  with_reducible refine hK _ ?_
  clear hK K
  refine lx_next 1 (by rfl) (by decide) ?_
  dsimp only [List.take, List.drop]
  repeat (go_big_quiet_step (fail))
  refine wpQuiet_nil ?_
  refine lx_nil ?_
  intro y hs
  have hxy := Lat.ext0 y
  clear hs hT hne u4 u5 u6 HFO
  generalize y.world = w20 at *
  replace HX := Lib.hid (HX.out.trans hxy)
  replace HBB := Lib.hid (HBB.out.ext hxy)
  replace HBX := Lib.hid (HBX.out.ext hxy)
  clear hxy m0 m1 m2 m3 m4 m5 ml n0 n1 n2 n3 nl
  have m0 := HBB.out.cell 0 (v := .int .i64 b.eye) rfl
  have m1 := HBB.out.cell 1 (v := .int .i64 b.bull) rfl
  have m2 := HBB.out.cell 2 (v := .slice a1 b.rings.length a4) rfl
  have m3 := HBB.out.cell 3 (v := .slice a2 b.lines.length a5) rfl
  have m4 := HBB.out.cell 4 (v := .slice a3 b.nums.length a6) rfl
  have m5 := HBB.out.cell 5 (v := .int .i64 b.wire) rfl
  have ml := HBB.out.lt
  have n0 := HBX.out.cell 0 (v := .slice wa worn.length wc) rfl
  have n1 := HBX.out.cell 1 (v := .slice ka wks.length kc) rfl
  have n2 := HBX.out.cell 2 (v := .int .i64 turn) rfl
  have n3 := HBX.out.cell 3 (v := .int .i64 lim) rfl
  have nl := HBX.out.lt
  have hff : (fm == fm) = true := by simp
  cases d1 : (fm != 0)
  case true =>
    have d2 : (fm == 0) = false := by simpa using d1
    have hf : formB b.nums.length worn [wk] ≠ 0 := by rw [HFM.out]; simpa using d1
    have e2 := last_form (lim := lim) HE0.out hf
    rw [HLR.out, HFM.out] at e2
    obtain ⟨rfl, rfl⟩ : 0 = la ∧ fm = le := by simpa [eq_comm] using e2
    clear e2 hf
    go_wp2_with fail
    refine (HKN.out _).mono ?_
    rintro e w21 ⟨rfl, hx⟩
    go_wp2_with fail
    go_ret
    exact ⟨rfl, HX.out.trans hx⟩
  case false =>
  obtain rfl : 0 = fm := (show fm = 0 by simpa using d1).symm
  clear d1 hff
  have HGF := Lib.hid (form_good HFM.out)
  cases hli : ins 0 1000000000 [lim]
  case false =>
    have e2 := last_lim HE0.out HFM.out hli
    rw [HLR.out] at e2
    obtain ⟨rfl, rfl⟩ : 0 = la ∧ 3 = le := by simpa [eq_comm] using e2
    clear e2
    by_cases h1 : lim < 0
    case pos =>
      clear hli
      go_wp2_with fail
      refine (HKN.out _).mono ?_
      rintro e w21 ⟨rfl, hx⟩
      go_wp2_with fail
      go_ret
      exact ⟨rfl, HX.out.trans hx⟩
    case neg =>
      have h2 : 1000000000 < lim := by
        rcases Int.lt_or_le 1000000000 lim with h | h
        · exact h
        · rw [ins_one.2 ⟨by omega, h⟩] at hli; cases hli
      clear hli
      go_wp2_with fail
      refine (HKN.out _).mono ?_
      rintro e w21 ⟨rfl, hx⟩
      go_wp2_with fail
      go_ret
      exact ⟨rfl, HX.out.trans hx⟩
  case true =>
  have e2 := last_of HE0.out HFM.out hli
  rw [HLR.out] at e2
  obtain ⟨hL, f2⟩ := Prod.mk.inj e2
  subst f2
  obtain ⟨hli1, hli2⟩ := ins_one.1 hli
  have hl1 : ¬ lim < 0 := by omega
  have hl2 : ¬ 1000000000 < lim := by omega
  have HLA := Lib.hid hL
  obtain ⟨hg1, hg2, hg3, hg4⟩ := HGF.out
  have HWL := Lib.hid hg1
  have HOK := Lib.hid hg2
  have HWB := Lib.hid hg3
  have HKB : Hid (wk.length = b.nums.length ∧ ∀ y ∈ wk, 0 ≤ y ∧ y ≤ 1000000) := Lib.hid ⟨(hg2 wk (by simp)).1, hg4 wk (by simp)⟩
  clear e2 hL hli hli1 hg1 hg2 hg3 hg4 HGF HFM HLR
  go_upto_region 33 with fail
  go_wp2
  go_loopw [18, 19, 20] (fun v r i wr => ∃ k : Nat, k ≤ 501 ∧ i = .int .i64 k ∧ ((r = .int .i64 (-1) ∧ ∃ u na nc, v = .slice na u.length nc ∧ CellsAt wr .i64 na u ∧ u.length = b.nums.length ∧ (∀ y ∈ u, 0 ≤ y ∧ y ≤ 1001000000) ∧ la = lastL wk lim (501 - k) k u) ∨ (r = .int .i64 la ∧ 0 ≤ la)) ∧ Ext w20 wr) (fun _ _ i _ => 501 - (intOf i).toNat)
  case atStart => exact ⟨0, by omega, rfl, .inl ⟨rfl, worn, wa, wc, rfl, HW.out.ext HX.out, HWL.out, fun y hy => by have := HWB.out y hy; omega, HLA.out⟩, Ext.refl _⟩
  case round =>
    obtain ⟨k, hk, rfl, hst, hx⟩ := hrel
    rcases hst with ⟨rfl, us, na, nc, rfl, hnow, hul, hub, hla⟩ | ⟨rfl, hpos⟩
    case inl =>
      by_cases hk5 : k ≤ 500
      case pos =>
        have HNW := Lib.hid hnow
        have HUL := Lib.hid hul
        have HUB := Lib.hid hub
        have HLK := Lib.hid hla
        have HX20 := Lib.hid hx
        have hok : wksOk us.length [wk] := by rw [hul]; exact HOK.out
        have hup : 0 < us.length := by have := HNL.out; omega
        obtain ⟨p, hp⟩ : ∃ p, bestL (plansL [wk] [] us) = some p := by
          cases h : bestL (plansL [wk] [] us) with
          | none => exact absurd (bestL_none h) (plansL_ne [wk] [] us hup hok)
          | some p => exact ⟨p, rfl⟩
        obtain ⟨j, hj, rfl⟩ := plans_one (bestL_mem hp)
        have HBP := Lib.hid hp
        have HPL : Hid (∀ W k, Ext wr W → WkC W (some ⟨k, 0, none⟩) [wk] → Calls Tryz.prog 17 #[.slice na us.length nc, .slice (some ⟨k, 0, none⟩) 1 1] W fun e w' => ∃ a c, e = .returned (.tuple #[.slice a 1 c, .int .i64 (maxL (afterL us wk j))]) ∧ CellsAt w' .i64 a [(j : Int)] ∧ Ext W w') :=
          Lib.hid (fun W k hX h => calls_rplan us [wk] na (some ⟨k, 0, none⟩) nc 1 W hp (hnow.ext hX) h hup (by have := HNL.out; omega) (by simp) hok (fun y hy => by have := hub y hy; omega))
        obtain ⟨ns, hns⟩ : ∃ x, afterL us wk j = x := ⟨_, rfl⟩
        have HRW : Hid (∀ W, Ext wr W → Calls Tryz.prog 19 #[.slice na us.length nc, .slice ua wk.length uc, .int .i64 j] W fun e w' => ∃ a c, e = .returned (.slice a ns.length c) ∧ RdI S0 w' (.slice a ns.length c) ns ∧ Ext W w') :=
          Lib.hid (fun W hX => by rw [← hns]; exact calls_rwear us wk na ua nc uc j W (hnow.ext hX) (HU.out.ext (HX.out.trans (hx.trans hX))) (by have := HKB.out.1; omega) hj (by have := HNL.out; omega) (fun y hy => by have := hub y hy; omega) (fun y hy => by have := HKB.out.2 y hy; omega))
        have HMO : Hid (∀ W, Ext wr W → Calls Tryz.prog 18 #[.slice na us.length nc] W fun e w' => e = .returned (.int .i64 (maxL us)) ∧ Ext W w') := Lib.hid (fun W hX => ref_most us na nc W (hnow.ext hX) hup (by have := HNL.out; omega))
        have HNSL : Hid (ns.length = b.nums.length) := Lib.hid (by rw [← hns, afterL_len us wk j (by have := HKB.out.1; omega) (by omega)]; exact hul)
        have HNSB : Hid (¬ lim < maxL us → ∀ y ∈ ns, 0 ≤ y ∧ y ≤ 1001000000) := Lib.hid (fun hm y hy => by
          rw [← hns] at hy
          obtain ⟨a, ha, d, hd, rfl⟩ := afterL_mem hy
          have h1 := maxL_ge us a ha
          have h2 := (hub a ha).1
          have h3 := HKB.out.2 d hd
          omega)
        have HNX : Hid (¬ lim < maxL us → la = lastL wk lim (501 - (k + 1)) (k + 1) ns) := Lib.hid (fun hm => by rw [← hns, ← last_step hk5 hm hp]; exact hla)
        have HHT : Hid (lim < maxL us → la = (k : Int)) := Lib.hid (fun hm => by rw [hla, last_hit hk5 hm])
        obtain ⟨M, hM⟩ : ∃ x, maxL (afterL us wk j) = x := ⟨_, rfl⟩
        rw [hM] at HPL
        generalize maxL us = mu at *
        have HXR := Lib.hid (Ext.refl wr)
        replace HX := Lib.hid (HX.out.trans hx)
        replace HBB := Lib.hid (HBB.out.ext hx)
        replace HBX := Lib.hid (HBX.out.ext hx)
        clear hnow hul hub hla hx hok hup hp hns hM hj HBP HLK HUB
        clear m0 m1 m2 m3 m4 m5 ml n0 n1 n2 n3 nl
        have m0 := HBB.out.cell 0 (v := .int .i64 b.eye) rfl
        have m1 := HBB.out.cell 1 (v := .int .i64 b.bull) rfl
        have m2 := HBB.out.cell 2 (v := .slice a1 b.rings.length a4) rfl
        have m3 := HBB.out.cell 3 (v := .slice a2 b.lines.length a5) rfl
        have m4 := HBB.out.cell 4 (v := .slice a3 b.nums.length a6) rfl
        have m5 := HBB.out.cell 5 (v := .int .i64 b.wire) rfl
        have ml := HBB.out.lt
        have n0 := HBX.out.cell 0 (v := .slice wa worn.length wc) rfl
        have n1 := HBX.out.cell 1 (v := .slice ka wks.length kc) rfl
        have n2 := HBX.out.cell 2 (v := .int .i64 turn) rfl
        have n3 := HBX.out.cell 3 (v := .int .i64 lim) rfl
        have nl := HBX.out.lt
        go_upto_region 37 with fail
        refine wp_region_later (by kernel_rfl) (by kernel_rfl) ?_
        repeat (go_big_quiet_step (refine Calls.later (HMO.out _ (Later.ext _))))
        refine wpQuiet_nil ?_
        intro w22 hw22
        obtain ⟨⟨w22, hx⟩, rfl⟩ := hw22
        clear HMO
        replace HX := Lib.hid (HX.out.trans hx)
        replace HBB := Lib.hid (HBB.out.ext hx)
        replace HBX := Lib.hid (HBX.out.ext hx)
        replace HXR := Lib.hid (HXR.out.ext hx)
        clear hx m0 m1 m2 m3 m4 m5 ml n0 n1 n2 n3 nl
        have m0 := HBB.out.cell 0 (v := .int .i64 b.eye) rfl
        have m1 := HBB.out.cell 1 (v := .int .i64 b.bull) rfl
        have m2 := HBB.out.cell 2 (v := .slice a1 b.rings.length a4) rfl
        have m3 := HBB.out.cell 3 (v := .slice a2 b.lines.length a5) rfl
        have m4 := HBB.out.cell 4 (v := .slice a3 b.nums.length a6) rfl
        have m5 := HBB.out.cell 5 (v := .int .i64 b.wire) rfl
        have ml := HBB.out.lt
        have n0 := HBX.out.cell 0 (v := .slice wa worn.length wc) rfl
        have n1 := HBX.out.cell 1 (v := .slice ka wks.length kc) rfl
        have n2 := HBX.out.cell 2 (v := .int .i64 turn) rfl
        have n3 := HBX.out.cell 3 (v := .int .i64 lim) rfl
        have nl := HBX.out.lt
        by_cases hm : lim < mu
        case pos =>
          go_wp2_with fail
          refine (HWK.out _ HX.out).mono ?_
          rintro e w23 ⟨rfl, hx⟩
          replace HX := Lib.hid (HX.out.trans hx)
          replace HBB := Lib.hid (HBB.out.ext hx)
          replace HBX := Lib.hid (HBX.out.ext hx)
          replace HXR := Lib.hid (HXR.out.ext hx)
          clear hx m0 m1 m2 m3 m4 m5 ml n0 n1 n2 n3 nl
          have m0 := HBB.out.cell 0 (v := .int .i64 b.eye) rfl
          have m1 := HBB.out.cell 1 (v := .int .i64 b.bull) rfl
          have m2 := HBB.out.cell 2 (v := .slice a1 b.rings.length a4) rfl
          have m3 := HBB.out.cell 3 (v := .slice a2 b.lines.length a5) rfl
          have m4 := HBB.out.cell 4 (v := .slice a3 b.nums.length a6) rfl
          have m5 := HBB.out.cell 5 (v := .int .i64 b.wire) rfl
          have ml := HBB.out.lt
          have n0 := HBX.out.cell 0 (v := .slice wa worn.length wc) rfl
          have n1 := HBX.out.cell 1 (v := .slice ka wks.length kc) rfl
          have n2 := HBX.out.cell 2 (v := .int .i64 turn) rfl
          have n3 := HBX.out.cell 3 (v := .int .i64 lim) rfl
          have nl := HBX.out.lt
          have hwk1 := WkC.one (HU.out.ext HX.out) HUN.out 24 rfl
          go_wp2_with fail
          refine (HPL.out _ _ (HXR.out.trans ((Ext.refl w23).alloc _)) hwk1).mono ?_
          rintro e w24 ⟨pa, pc, rfl, hpc, hx2⟩
          have hx := ((Ext.refl w23).alloc (.cells #[.slice ua wk.length uc] 24)).trans hx2
          obtain ⟨pb, po, e, c0⟩ := hpc 0 (by simp)
          subst e
          simp only [List.getElem_cons_zero, Nat.add_zero] at c0
          have c1 := lt_of_cell c0
          simp only at c1
          clear hx2 hpc HPL hwk1
          replace HX := Lib.hid (HX.out.trans hx)
          replace HBB := Lib.hid (HBB.out.ext hx)
          replace HBX := Lib.hid (HBX.out.ext hx)
          replace HXR := Lib.hid (HXR.out.ext hx)
          clear hx m0 m1 m2 m3 m4 m5 ml n0 n1 n2 n3 nl
          have m0 := HBB.out.cell 0 (v := .int .i64 b.eye) rfl
          have m1 := HBB.out.cell 1 (v := .int .i64 b.bull) rfl
          have m2 := HBB.out.cell 2 (v := .slice a1 b.rings.length a4) rfl
          have m3 := HBB.out.cell 3 (v := .slice a2 b.lines.length a5) rfl
          have m4 := HBB.out.cell 4 (v := .slice a3 b.nums.length a6) rfl
          have m5 := HBB.out.cell 5 (v := .int .i64 b.wire) rfl
          have ml := HBB.out.lt
          have n0 := HBX.out.cell 0 (v := .slice wa worn.length wc) rfl
          have n1 := HBX.out.cell 1 (v := .slice ka wks.length kc) rfl
          have n2 := HBX.out.cell 2 (v := .int .i64 turn) rfl
          have n3 := HBX.out.cell 3 (v := .int .i64 lim) rfl
          have nl := HBX.out.lt
          go_upto_region 40 with fail
          clear m0 m1 m2 m3 m4 m5 ml n0 n1 n2 n3 nl
          have m0 : ∀ y : Lat NoX w24, y.world.cell? ⟨w.heap.size, 0, none⟩ = some (.int .i64 b.eye) := fun y => (HBB.out.ext (Lat.ext0 y)).cell 0 rfl
          have m1 : ∀ y : Lat NoX w24, y.world.cell? ⟨w.heap.size, 1, none⟩ = some (.int .i64 b.bull) := fun y => (HBB.out.ext (Lat.ext0 y)).cell 1 rfl
          have m2 : ∀ y : Lat NoX w24, y.world.cell? ⟨w.heap.size, 2, none⟩ = some (.slice a1 b.rings.length a4) := fun y => (HBB.out.ext (Lat.ext0 y)).cell 2 rfl
          have m3 : ∀ y : Lat NoX w24, y.world.cell? ⟨w.heap.size, 3, none⟩ = some (.slice a2 b.lines.length a5) := fun y => (HBB.out.ext (Lat.ext0 y)).cell 3 rfl
          have m4 : ∀ y : Lat NoX w24, y.world.cell? ⟨w.heap.size, 4, none⟩ = some (.slice a3 b.nums.length a6) := fun y => (HBB.out.ext (Lat.ext0 y)).cell 4 rfl
          have m5 : ∀ y : Lat NoX w24, y.world.cell? ⟨w.heap.size, 5, none⟩ = some (.int .i64 b.wire) := fun y => (HBB.out.ext (Lat.ext0 y)).cell 5 rfl
          have ml := HBB.out.lt
          have n0 : ∀ y : Lat NoX w24, y.world.cell? ⟨(w.heap.size + 1), 0, none⟩ = some (.slice wa worn.length wc) := fun y => (HBX.out.ext (Lat.ext0 y)).cell 0 rfl
          have n1 : ∀ y : Lat NoX w24, y.world.cell? ⟨(w.heap.size + 1), 1, none⟩ = some (.slice ka wks.length kc) := fun y => (HBX.out.ext (Lat.ext0 y)).cell 1 rfl
          have n2 : ∀ y : Lat NoX w24, y.world.cell? ⟨(w.heap.size + 1), 2, none⟩ = some (.int .i64 turn) := fun y => (HBX.out.ext (Lat.ext0 y)).cell 2 rfl
          have n3 : ∀ y : Lat NoX w24, y.world.cell? ⟨(w.heap.size + 1), 3, none⟩ = some (.int .i64 lim) := fun y => (HBX.out.ext (Lat.ext0 y)).cell 3 rfl
          have nl := HBX.out.lt
          have pc0 : ∀ y : Lat NoX w24, y.world.cell? ⟨pb, po, none⟩ = some (.int .i64 j) := fun y => (Lat.ext0 y).cell c0
          refine wp_region_ext (by kernel_rfl) [.no, .no, .val (.slice ua wk.length uc), .no, .no, .no, .rdi ns] (by kernel_rfl) (Nat.le_of_ble_eq_true rfl) ?_
          intro T hT hne u hu
          have u2 : u 2 = .slice ua wk.length uc := hu 2 rfl
          obtain ⟨ra, rc, u6⟩ : SlcS ns.length (u 6) := hu 6 rfl
          clear hu
          refine lx_next 2 (by rfl) (by decide) ?_
          dsimp only [List.take, List.drop]
          repeat (go_big_quiet_step (fail))
          refine wpQuiet_nil ?_
          refine lx_loud (by rfl) (by kernel_rfl) ?_ (fun K hK => ?_)
          · intro L w3 hL hd hcl hC hs
            obtain ⟨y, rfl⟩ := hC
            have hxy := Lat.ext0 y

            go_wp2_with fail
            refine (HWK.out _ (HX.out.trans hxy)).mono ?_
            rintro e w' ⟨rfl, hx⟩
            have HRK := Lib.hid (rik_call (i := 2) y hs rfl hx trivial)
            clear hs
            go_wp2
            exact HRK.out
          rw [u2]
          go_simp
          with_reducible refine hK _ ?_
          clear hK K
          refine lx_next 3 (by rfl) (by decide) ?_
          dsimp only [List.take, List.drop]
          repeat (go_big_quiet_step (fail))
          refine wpQuiet_nil ?_
          refine lx_loud (by rfl) (by kernel_rfl) ?_ (fun K hK => ?_)
          · intro L w3 hL hd hcl hC hs
            obtain ⟨y, rfl⟩ := hC
            have hxy := Lat.ext0 y

            go_wp2_with fail
            refine (HRW.out _ (HXR.out.trans hxy)).mono ?_
            rintro e w' ⟨xa, xc, rfl, hri, hx⟩
            have HRK := Lib.hid (rik_call (i := 6) y hs ⟨xa, xc, rfl⟩ hx hri)
            clear hs
            go_wp2
            exact HRK.out
          rw [u6]
          go_simp
          with_reducible refine hK _ ?_
          clear hK K
          refine lx_next 1 (by rfl) (by decide) ?_
          dsimp only [List.take, List.drop]
          repeat (go_big_quiet_step (fail))
          refine wpQuiet_nil ?_
          refine lx_nil ?_
          intro y hs
          have hxy := Lat.ext0 y
          have hr6 := hs 6 rfl rfl
          rw [u6] at hr6
          have HRI : Hid (RdI S0 y.world (.slice ra ns.length rc) ns) := Lib.hid hr6
          clear hs hT hne u2 u6 hr6 HRW pc0 c0 c1
          generalize y.world = w25 at *
          replace HXR := Lib.hid (HXR.out.trans hxy)
          clear hxy m0 m1 m2 m3 m4 m5 ml n0 n1 n2 n3 nl
          go_wp2
          go_roundw
          case rel => exact ⟨k + 1, by omega, by go_num, .inr ⟨congrArg (Value.int .i64) (HHT.out hm).symm, by have := HHT.out hm; omega⟩, HX20.out.trans HXR.out⟩
          case measure => simp [intOf]; omega
        case neg =>
          go_wp2_with fail
          refine (HWK.out _ HX.out).mono ?_
          rintro e w23 ⟨rfl, hx⟩
          replace HX := Lib.hid (HX.out.trans hx)
          replace HBB := Lib.hid (HBB.out.ext hx)
          replace HBX := Lib.hid (HBX.out.ext hx)
          replace HXR := Lib.hid (HXR.out.ext hx)
          clear hx m0 m1 m2 m3 m4 m5 ml n0 n1 n2 n3 nl
          have m0 := HBB.out.cell 0 (v := .int .i64 b.eye) rfl
          have m1 := HBB.out.cell 1 (v := .int .i64 b.bull) rfl
          have m2 := HBB.out.cell 2 (v := .slice a1 b.rings.length a4) rfl
          have m3 := HBB.out.cell 3 (v := .slice a2 b.lines.length a5) rfl
          have m4 := HBB.out.cell 4 (v := .slice a3 b.nums.length a6) rfl
          have m5 := HBB.out.cell 5 (v := .int .i64 b.wire) rfl
          have ml := HBB.out.lt
          have n0 := HBX.out.cell 0 (v := .slice wa worn.length wc) rfl
          have n1 := HBX.out.cell 1 (v := .slice ka wks.length kc) rfl
          have n2 := HBX.out.cell 2 (v := .int .i64 turn) rfl
          have n3 := HBX.out.cell 3 (v := .int .i64 lim) rfl
          have nl := HBX.out.lt
          have hwk1 := WkC.one (HU.out.ext HX.out) HUN.out 24 rfl
          go_wp2_with fail
          refine (HPL.out _ _ (HXR.out.trans ((Ext.refl w23).alloc _)) hwk1).mono ?_
          rintro e w24 ⟨pa, pc, rfl, hpc, hx2⟩
          have hx := ((Ext.refl w23).alloc (.cells #[.slice ua wk.length uc] 24)).trans hx2
          obtain ⟨pb, po, e, c0⟩ := hpc 0 (by simp)
          subst e
          simp only [List.getElem_cons_zero, Nat.add_zero] at c0
          have c1 := lt_of_cell c0
          simp only at c1
          clear hx2 hpc HPL hwk1
          replace HX := Lib.hid (HX.out.trans hx)
          replace HBB := Lib.hid (HBB.out.ext hx)
          replace HBX := Lib.hid (HBX.out.ext hx)
          replace HXR := Lib.hid (HXR.out.ext hx)
          clear hx m0 m1 m2 m3 m4 m5 ml n0 n1 n2 n3 nl
          have m0 := HBB.out.cell 0 (v := .int .i64 b.eye) rfl
          have m1 := HBB.out.cell 1 (v := .int .i64 b.bull) rfl
          have m2 := HBB.out.cell 2 (v := .slice a1 b.rings.length a4) rfl
          have m3 := HBB.out.cell 3 (v := .slice a2 b.lines.length a5) rfl
          have m4 := HBB.out.cell 4 (v := .slice a3 b.nums.length a6) rfl
          have m5 := HBB.out.cell 5 (v := .int .i64 b.wire) rfl
          have ml := HBB.out.lt
          have n0 := HBX.out.cell 0 (v := .slice wa worn.length wc) rfl
          have n1 := HBX.out.cell 1 (v := .slice ka wks.length kc) rfl
          have n2 := HBX.out.cell 2 (v := .int .i64 turn) rfl
          have n3 := HBX.out.cell 3 (v := .int .i64 lim) rfl
          have nl := HBX.out.lt
          go_upto_region 40 with fail
          clear m0 m1 m2 m3 m4 m5 ml n0 n1 n2 n3 nl
          have m0 : ∀ y : Lat NoX w24, y.world.cell? ⟨w.heap.size, 0, none⟩ = some (.int .i64 b.eye) := fun y => (HBB.out.ext (Lat.ext0 y)).cell 0 rfl
          have m1 : ∀ y : Lat NoX w24, y.world.cell? ⟨w.heap.size, 1, none⟩ = some (.int .i64 b.bull) := fun y => (HBB.out.ext (Lat.ext0 y)).cell 1 rfl
          have m2 : ∀ y : Lat NoX w24, y.world.cell? ⟨w.heap.size, 2, none⟩ = some (.slice a1 b.rings.length a4) := fun y => (HBB.out.ext (Lat.ext0 y)).cell 2 rfl
          have m3 : ∀ y : Lat NoX w24, y.world.cell? ⟨w.heap.size, 3, none⟩ = some (.slice a2 b.lines.length a5) := fun y => (HBB.out.ext (Lat.ext0 y)).cell 3 rfl
          have m4 : ∀ y : Lat NoX w24, y.world.cell? ⟨w.heap.size, 4, none⟩ = some (.slice a3 b.nums.length a6) := fun y => (HBB.out.ext (Lat.ext0 y)).cell 4 rfl
          have m5 : ∀ y : Lat NoX w24, y.world.cell? ⟨w.heap.size, 5, none⟩ = some (.int .i64 b.wire) := fun y => (HBB.out.ext (Lat.ext0 y)).cell 5 rfl
          have ml := HBB.out.lt
          have n0 : ∀ y : Lat NoX w24, y.world.cell? ⟨(w.heap.size + 1), 0, none⟩ = some (.slice wa worn.length wc) := fun y => (HBX.out.ext (Lat.ext0 y)).cell 0 rfl
          have n1 : ∀ y : Lat NoX w24, y.world.cell? ⟨(w.heap.size + 1), 1, none⟩ = some (.slice ka wks.length kc) := fun y => (HBX.out.ext (Lat.ext0 y)).cell 1 rfl
          have n2 : ∀ y : Lat NoX w24, y.world.cell? ⟨(w.heap.size + 1), 2, none⟩ = some (.int .i64 turn) := fun y => (HBX.out.ext (Lat.ext0 y)).cell 2 rfl
          have n3 : ∀ y : Lat NoX w24, y.world.cell? ⟨(w.heap.size + 1), 3, none⟩ = some (.int .i64 lim) := fun y => (HBX.out.ext (Lat.ext0 y)).cell 3 rfl
          have nl := HBX.out.lt
          have pc0 : ∀ y : Lat NoX w24, y.world.cell? ⟨pb, po, none⟩ = some (.int .i64 j) := fun y => (Lat.ext0 y).cell c0
          refine wp_region_ext (by kernel_rfl) [.no, .no, .val (.slice ua wk.length uc), .no, .no, .no, .rdi ns] (by kernel_rfl) (Nat.le_of_ble_eq_true rfl) ?_
          intro T hT hne u hu
          have u2 : u 2 = .slice ua wk.length uc := hu 2 rfl
          obtain ⟨ra, rc, u6⟩ : SlcS ns.length (u 6) := hu 6 rfl
          clear hu
          refine lx_next 2 (by rfl) (by decide) ?_
          dsimp only [List.take, List.drop]
          repeat (go_big_quiet_step (fail))
          refine wpQuiet_nil ?_
          refine lx_loud (by rfl) (by kernel_rfl) ?_ (fun K hK => ?_)
          · intro L w3 hL hd hcl hC hs
            obtain ⟨y, rfl⟩ := hC
            have hxy := Lat.ext0 y

            go_wp2_with fail
            refine (HWK.out _ (HX.out.trans hxy)).mono ?_
            rintro e w' ⟨rfl, hx⟩
            have HRK := Lib.hid (rik_call (i := 2) y hs rfl hx trivial)
            clear hs
            go_wp2
            exact HRK.out
          rw [u2]
          go_simp
          with_reducible refine hK _ ?_
          clear hK K
          refine lx_next 3 (by rfl) (by decide) ?_
          dsimp only [List.take, List.drop]
          repeat (go_big_quiet_step (fail))
          refine wpQuiet_nil ?_
          refine lx_loud (by rfl) (by kernel_rfl) ?_ (fun K hK => ?_)
          · intro L w3 hL hd hcl hC hs
            obtain ⟨y, rfl⟩ := hC
            have hxy := Lat.ext0 y

            go_wp2_with fail
            refine (HRW.out _ (HXR.out.trans hxy)).mono ?_
            rintro e w' ⟨xa, xc, rfl, hri, hx⟩
            have HRK := Lib.hid (rik_call (i := 6) y hs ⟨xa, xc, rfl⟩ hx hri)
            clear hs
            go_wp2
            exact HRK.out
          rw [u6]
          go_simp
          with_reducible refine hK _ ?_
          clear hK K
          refine lx_next 1 (by rfl) (by decide) ?_
          dsimp only [List.take, List.drop]
          repeat (go_big_quiet_step (fail))
          refine wpQuiet_nil ?_
          refine lx_nil ?_
          intro y hs
          have hxy := Lat.ext0 y
          have hr6 := hs 6 rfl rfl
          rw [u6] at hr6
          have HRI : Hid (RdI S0 y.world (.slice ra ns.length rc) ns) := Lib.hid hr6
          clear hs hT hne u2 u6 hr6 HRW pc0 c0 c1
          generalize y.world = w25 at *
          replace HXR := Lib.hid (HXR.out.trans hxy)
          clear hxy m0 m1 m2 m3 m4 m5 ml n0 n1 n2 n3 nl
          go_wp2
          go_roundw
          case rel => exact ⟨k + 1, by omega, by go_num, .inl ⟨rfl, ns, ra, rc, rfl, rd_cells HRI.out, HNSL.out, HNSB.out hm, HNX.out hm⟩, HX20.out.trans HXR.out⟩
          case measure => simp [intOf]; omega
      case neg =>
        obtain rfl : k = 501 := by omega
        obtain rfl : la = -1 := hla
        replace HX := Lib.hid (HX.out.trans hx)
        clear hnow hul hub hx
        clear m0 m1 m2 m3 m4 m5 ml n0 n1 n2 n3 nl
        go_wp2_with fail
        refine (HKN.out _).mono ?_
        rintro e w26 ⟨rfl, hx⟩
        go_wp2_with fail
        go_ret
        exact ⟨rfl, HX.out.trans hx⟩
    case inr =>
      replace HX := Lib.hid (HX.out.trans hx)
      have hln : ¬ la < 0 := by omega
      have hll : (la == la) = true := by simp
      clear hx hpos HLA
      clear m0 m1 m2 m3 m4 m5 ml n0 n1 n2 n3 nl
      by_cases hk5 : k ≤ 500
      case pos =>
        go_wp2_with fail
        refine (HKN.out _).mono ?_
        rintro e w26 ⟨rfl, hx⟩
        go_wp2_with fail
        go_ret
        exact ⟨rfl, HX.out.trans hx⟩
      case neg =>
        go_wp2_with fail
        refine (HKN.out _).mono ?_
        rintro e w26 ⟨rfl, hx⟩
        go_wp2_with fail
        go_ret
        exact ⟨rfl, HX.out.trans hx⟩
end Go.Proofs.YtlkbbcfbnbnagaaGreat
