/-
  The statement LegVisits: walked.
-/
import Derived.Test.YtocnglplhnhllaaKno
import Derived.Test.YtocnglplhnhllaaRfb
import Derived.Test.YtocnglplhnhllaaApp
namespace Go.Proofs.Ytocnglplhnhllaa
open Go.RowKit Go.BigFrame
attribute [local go_sem] Later.cell Later.frozen
theorem info_bed : (Try.prog.info? 34).map (fun i => (i.zero, i.size, i.bytes)) = some (some (.int .i64 0), 1, 8) := by kernel_rfl
set_option maxRecDepth 100000 in
set_option maxHeartbeats 2000000 in
theorem law_LegVisits (start gin gout left : Int) (inn : Bool) (beds : List Int) (a : Option Addr) (c : Nat) (w : World) (hA : CellsAt w .i64 a beds) (hb : ∀ x ∈ beds, I64 x) (hlen : beds.length ≤ 9223372036854775807) (hnil : a = none → beds.length = 0 ∧ c = 0) :
    Calls Try.prog 3 #[.agg #[.int .i64 start, .int .i64 gin, .int .i64 gout, .bool inn, .int .i64 left], .slice a beds.length c] w fun e w' => e = .returned (.bool true) ∧ Ext w w' := by
  have HA := Lib.hid hA
  have HB := Lib.hid hb
  have HN := Lib.hid hnil
  clear hA hb hnil
  by_cases h6 : 6 < beds.length
  · go_enter Try.func3, Try.ntmps3
    go_wp2_with fail
    refine (law_known _).mono ?_
    rintro e w1 ⟨rfl, hx⟩
    go_wp2
    go_ret
    exact ⟨rfl, Ext.trans ((Ext.refl w).alloc _) hx⟩
  · obtain ⟨S, hS⟩ : ∃ S, visS start gin gout inn left beds = S := ⟨_, rfl⟩
    have HS := Lib.hid hS
    clear hS
    go_enter Try.func3, Try.ntmps3
    go_wp2_with (at_builtin; refine wp_append_vals rfl _ _ 27 34 _ 1 8 rfl info_bed (by kernel_rfl) rfl (by decide) w.heap.size _ 0 [] rfl (own_empty (by simp) (by simp)) a beds.length c (beds.map (Value.int .i64)) rfl HN.out (by simp) (CellsAt.vals (HA.out.ext (((Ext.refl w).alloc _).alloc _))) (ints_one _ _) (by omega) (by omega) (by simp; omega) ?_)
    intro v' w1 ho1 hg1
    obtain ⟨ca, cc, rfl, hcl⟩ := own_cells_i (xs := beds) (by simpa using ho1)
    have hE1 : Ext w w1 := Chg.to_ext (((Ext.refl w).alloc _).alloc _) (grown_chg hg1) (fun i e => by cases e; simp)
    have hM1 : Blk w1 w.heap.size #[.int .i64 start, .int .i64 gin, .int .i64 gout, .bool inn, .int .i64 left] := ((Blk.new w _ _).alloc _).chg (grown_chg hg1) (fun e => by have := Option.some.inj e; simp at this)
    have HC := Lib.hid hcl
    have m0 := hM1.cell 0 (v := .int .i64 start) rfl
    have m1 := hM1.cell 1 (v := .int .i64 gin) rfl
    have m2 := hM1.cell 2 (v := .int .i64 gout) rfl
    have m3 := hM1.cell 3 (v := .bool inn) rfl
    have m4 := hM1.cell 4 (v := .int .i64 left) rfl
    have hml := hM1.lt
    have HM := Lib.hid hM1
    clear hg1 ho1 hcl hM1
    go_wp2_with fail
    refine (leg_Visit start gin gout inn left beds ca cc w1 HC.out HB.out hlen S HS.out).mono ?_
    rintro e w2 ⟨rfl, hx2⟩
    have hE2 := hE1.trans hx2
    have HC2 := Lib.hid (HC.out.ext hx2)
    have HM2 := Lib.hid (HM.out.ext hx2)
    obtain ⟨⟨xl, xs, xd, xi, xb, xw⟩, er⟩ := S
    simp only [Thr.agg]
    clear m0 m1 m2 m3 m4 hml HC HM hx2 hE1
    go_wp2
    generalize hW : World.alloc w2 _ = W
    have hs : Ext w2 W := by rw [← hW]; exact (Ext.refl w2).alloc _
    have hX3 : Blk W w2.heap.size #[.int .i64 xl, .int .i64 xs, .int .i64 xd, .bool xi, .bool xb, .bool xw] := by rw [← hW]; exact Blk.new _ _ _
    have HX3 := Lib.hid hX3
    have HC3 := Lib.hid (HC2.out.ext hs)
    have HM3 := Lib.hid (HM2.out.ext hs)
    have HE3 := Lib.hid (hE2.trans hs)
    clear hW hs hX3 HC2 HM2 hE2
    generalize w2.heap.size = kx at *
    go_loopw [8] (fun i wr => ∃ k : Nat, k ≤ beds.length ∧ i = .int .i64 k ∧ Ext W wr) (fun i _ => beds.length - (intOf i).toNat)
    case atStart => exact ⟨0, Nat.zero_le _, rfl, Ext.refl W⟩
    case round =>
      obtain ⟨k, hk, rfl, hxr⟩ := hrel
      by_cases hlt : k < beds.length
      · obtain ⟨b1, o1, rfl, e1⟩ := HC3.out k hlt
        obtain ⟨b2, o2, rfl, e2⟩ := HA.out k hlt
        replace e1 := hxr.cell e1
        replace e2 := (HE3.out.trans hxr).cell e2
        have hl1 := lt_of_cell e1
        have hl2 := lt_of_cell e2
        go_wp2
        refine wp_region_later (by kernel_rfl) (by kernel_rfl) ?_
        repeat (go_big_quiet_step (fail))
        refine wpQuiet_nil ?_
        intro w4 hw4
        obtain ⟨⟨w4, hx4⟩, rfl⟩ := hw4
        go_wp2
        go_roundw
        case rel => exact ⟨k + 1, by omega, by go_num, hxr.trans hx4⟩
        case measure => simp [intOf]; omega
      · have hE4 := HE3.out.trans hxr
        have hM4 := HM3.out.ext hxr
        have hX4 := HX3.out.ext hxr
        have m0 := hM4.cell 0 (v := .int .i64 start) rfl
        have m1 := hM4.cell 1 (v := .int .i64 gin) rfl
        have m2 := hM4.cell 2 (v := .int .i64 gout) rfl
        have m3 := hM4.cell 3 (v := .bool inn) rfl
        have m4 := hM4.cell 4 (v := .int .i64 left) rfl
        have hml := hM4.lt
        have HM4 := Lib.hid hM4
        have HX4 := Lib.hid hX4
        clear hM4 hX4 HM3 HX3 HC3 HE3 hxr
        go_wp2_with fail
        refine (ref_Count start gin gout _).mono ?_
        rintro e w5 ⟨rfl, hx5⟩
        have hE5 := hE4.trans hx5
        have hM5 := HM4.out.ext hx5
        have hX5 := HX4.out.ext hx5
        have HM5 := Lib.hid hM5
        have HX5 := Lib.hid hX5
        clear m0 m1 m2 m3 m4 hml HM4 HX4 hE4 hx5
        cases hcnt : cntB start gin gout
        · have hz : (⟨xl, xs, xd, xi, xb, xw⟩ : Thr) = ⟨0, 0, 0, false, false, false⟩ ∧ er = 2 := by
            have := HS.out
            unfold visS at this
            rw [if_pos hcnt] at this
            exact ⟨(congrArg Prod.fst this).symm, (congrArg Prod.snd this).symm⟩
          obtain ⟨e1, rfl⟩ := hz
          cases e1
          obtain ⟨⟨z0, z1, z2, z3, z4, z5⟩, zs, -⟩ := HX5.out.six
          go_wp2_with fail
          refine (law_known _).mono ?_
          rintro e w6 ⟨rfl, hx6⟩
          go_wp2
          go_ret
          exact ⟨rfl, hE5.trans hx6⟩
        · have m0 := HM5.out.cell 0 (v := .int .i64 start) rfl
          have m1 := HM5.out.cell 1 (v := .int .i64 gin) rfl
          have m2 := HM5.out.cell 2 (v := .int .i64 gout) rfl
          have m3 := HM5.out.cell 3 (v := .bool inn) rfl
          have m4 := HM5.out.cell 4 (v := .int .i64 left) rfl
          have hml := HM5.out.lt
          go_wp2_with fail
          refine (ref_Start start gin gout left inn _).mono ?_
          rintro e w6 ⟨rfl, hx6⟩
          have hE6 := hE5.trans hx6
          have HM6 := Lib.hid (HM5.out.ext hx6)
          have HX6 := Lib.hid (HX5.out.ext hx6)
          clear m0 m1 m2 m3 m4 hml HM5 HX5 hE5 hx6
          cases hst : startB start gout left inn
          · have hz : (⟨xl, xs, xd, xi, xb, xw⟩ : Thr) = ⟨0, 0, 0, false, false, false⟩ ∧ er = 3 := by
              have := HS.out
              unfold visS at this
              rw [if_neg (by rw [hcnt]; simp)] at this
              unfold startB at hst
              cases h1 : ins (leastS gout) start [left]
              · rw [if_pos h1] at this
                exact ⟨(congrArg Prod.fst this).symm, (congrArg Prod.snd this).symm⟩
              · rw [h1, Bool.true_and, Bool.or_eq_false_iff] at hst
                rw [if_neg (by rw [h1]; simp), if_pos ⟨hst.1, by simp [bne, hst.2]⟩] at this
                exact ⟨(congrArg Prod.fst this).symm, (congrArg Prod.snd this).symm⟩
            obtain ⟨e1, rfl⟩ := hz
            cases e1
            obtain ⟨⟨z0, z1, z2, z3, z4, z5⟩, zs, -⟩ := HX6.out.six
            go_wp2_with fail
            refine (law_known _).mono ?_
            rintro e w7 ⟨rfl, hx7⟩
            go_wp2
            go_ret
            exact ⟨rfl, hE6.trans hx7⟩
          · obtain ⟨T, hT⟩ : ∃ T, thr gin gout inn left beds = T := ⟨_, rfl⟩
            have hst' := hst
            unfold startB at hst'
            rw [Bool.and_eq_true] at hst'
            have hle := ins_one.1 hst'.1
            have hct := cntB_start hcnt
            have hls : 1 ≤ leastS gout := by unfold leastS; split <;> omega
            have hz : (⟨xl, xs, xd, xi, xb, xw⟩ : Thr) = T.1 ∧ er = T.2.2 := by
              have := HS.out
              unfold visS at this
              rw [if_neg (by rw [hcnt]; simp), if_neg (by rw [hst'.1]; simp), if_neg (by
                rintro ⟨h1, h2⟩
                have h3 := hst'.2
                rw [h1, Bool.false_or] at h3
                simp [bne, h3] at h2), hT] at this
              exact ⟨(congrArg Prod.fst this).symm, (congrArg Prod.snd this).symm⟩
            obtain ⟨e1, rfl⟩ := hz
            obtain ⟨T1, at_, er⟩ := T
            simp only at e1
            subst e1
            have HT := Lib.hid hT
            have hle2 : 0 ≤ left ∧ left ≤ 1001 := by omega
            clear hT hst' hls hct hst hle
            have m0 := HM6.out.cell 0 (v := .int .i64 start) rfl
            have m1 := HM6.out.cell 1 (v := .int .i64 gin) rfl
            have m2 := HM6.out.cell 2 (v := .int .i64 gout) rfl
            have m3 := HM6.out.cell 3 (v := .bool inn) rfl
            have m4 := HM6.out.cell 4 (v := .int .i64 left) rfl
            have hml := HM6.out.lt
            go_wp2_with fail
            refine (ref_Visit start gin gout inn left beds a c _ (HA.out.ext hE6) HB.out hlen hle2 hcnt _ HT.out).mono ?_
            rintro e w7 ⟨rfl, hx7⟩
            have hE7 := hE6.trans hx7
            obtain ⟨⟨z0, z1, z2, z3, z4, z5⟩, zs, -⟩ := (HX6.out.ext hx7).six
            clear m0 m1 m2 m3 m4 hml HM6 HX6 hE6 hx7
            simp only [Thr.agg]
            go_wp2_with fail
            refine (law_known _).mono ?_
            rintro e w8 ⟨rfl, hx8⟩
            go_wp2
            go_ret
            exact ⟨rfl, (hE7.alloc _).trans hx8⟩
end Go.Proofs.Ytocnglplhnhllaa
