/-
  The reference of chapter 6: Hit as a whole, Finish, Beds.
-/
import Derived.Test.YtmopadnkjlodnaaRhb
import Derived.Deep.CutBlock
namespace Go.Proofs.Ytmopadnkjlodnaa
open Go.RowKit Go.BigFrame
attribute [local go_sem] Later.cell Later.frozen
theorem any_take {α : Type} (q : α → Bool) (l : List α) {k : Nat} (h : k < l.length) (hp : (l.take k).any q = false) : (l.take (k + 1)).any q = q l[k] := by
  rw [List.take_succ_eq_append_getElem h, List.any_append, hp]; simp
theorem any_hit {α : Type} (q : α → Bool) (l : List α) {k : Nat} (h : k < l.length) (hq : q l[k] = true) : l.any q = true := List.any_eq_true.2 ⟨_, List.getElem_mem h, hq⟩
/-- Hit, at any stand that goes on. -/
theorem ref_Hit (start gin gout left : Int) (inn : Bool) (x : Int) (w : World) (hx : I64 x) (hl : I64 (left - wrt x)) (hg : 0 ≤ gin ∧ gin ≤ 2) (hgo : 0 ≤ gout ∧ gout ≤ 2) :
    Calls Try.prog 68 #[.agg #[.int .i64 start, .int .i64 gin, .int .i64 gout], .agg #[.int .i64 left, .bool inn, .bool false, .bool false], .int .i64 x] w fun e w' => e = .returned (stdV (hitS gin gout left inn x)) ∧ Ext w w' := by
  cases h0 : (x == 0)
  · by_cases ho : inn = true ∨ opn gin x = true
    · exact ref_Hit_open start gin gout left inn x w hx hl hg hgo h0 ho
    · have h1 : inn = false := by cases inn; rfl; exact absurd (.inl rfl) ho
      have h2 : opn gin x = false := by cases h : opn gin x; rfl; exact absurd (.inr h) ho
      have h3 : hitS gin gout left inn x = (left, inn, 0) := by unfold hitS; rw [if_pos (.inr ⟨h1, h2⟩)]
      rw [h3, h1]
      exact ref_Hit_shut start gin gout left x w hx hg h0 h2
  · obtain rfl : x = 0 := by simpa using h0
    have h3 : hitS gin gout left inn 0 = (left, inn, 0) := by unfold hitS; rw [if_pos (.inl rfl)]
    rw [h3]
    exact ref_Hit_miss start gin gout left inn w
theorem run_stand_won (x0 x1 x2 x3 : Value) (w : World) : (Instr.field 110 (.agg #[x0, x1, x2, x3]) 2).run Try.prog w = .ok x2 w := by
  simp [Instr.field, part, asAgg, go_sem]
set_option maxHeartbeats 2000000 in
theorem ref_Finish (start gin gout left : Int) (inn : Bool) (beds : List Int) (ba : Option Addr) (bc : Nat) (w : World) (hR : CellsAt w .i64 ba beds) (hS : Sane left beds) (hg : 0 ≤ gin ∧ gin ≤ 2) (hgo : 0 ≤ gout ∧ gout ≤ 2) (hn : beds.length ≤ 1000000) :
    Calls Try.prog 67 #[.agg #[.int .i64 start, .int .i64 gin, .int .i64 gout], .slice ba beds.length bc, .agg #[.int .i64 left, .bool inn, .bool false, .bool false]] w fun e w' => e = .returned (.bool (fin gin gout beds left inn)) ∧ Ext w w' := by
  have HH := Lib.hid (fun x (hx : x ∈ beds) W => ref_Hit start gin gout left inn x W (hS x hx).1 (hS x hx).2 hg hgo)
  unfold stdV at HH
  have HR := Lib.hid hR
  have HN := Lib.hid hn
  obtain ⟨F, hF⟩ : ∃ y, fin gin gout beds left inn = y := ⟨_, rfl⟩
  rw [hF]
  have HF := Lib.hid hF
  unfold fin at HF
  clear hF hR hS hg hgo hn
  go_enter Try.func67, Try.ntmps67
  go_wp2
  generalize hw1 : World.alloc (World.alloc w _) _ = w1
  obtain ⟨B, hBB⟩ : ∃ y, y = w.heap.size := ⟨_, rfl⟩
  rw [← hBB]
  have HX1 : Hid (Ext w w1) := Lib.hid (by rw [← hw1]; exact ((Ext.refl w).alloc _).alloc _)
  have KC : Hid (Blk w1 B #[.int .i64 start, .int .i64 gin, .int .i64 gout]) := Lib.hid (by rw [← hw1, hBB]; exact (Blk.new w _ _).alloc _)
  have KS : Hid (Blk w1 (B + 1) #[.int .i64 left, .bool inn, .bool false, .bool false]) := Lib.hid (by rw [← hw1]; exact Blk.at _ (by simp [hBB]))
  clear hw1 hBB
  go_loopw [7] (fun i wr => ∃ k : Nat, k ≤ beds.length ∧ i = .int .i64 k ∧ (beds.take k).any (fun b => (hitS gin gout left inn b).2.2 == 1) = false ∧ Ext w1 wr) (fun i _ => beds.length - (intOf i).toNat)
  case atStart => exact ⟨0, Nat.zero_le _, rfl, rfl, Ext.refl w1⟩
  case round =>
    obtain ⟨k, hk, rfl, hno, hx⟩ := hrel
    have HNO := Lib.hid hno
    have HXr := Lib.hid hx
    have hbn := HN.out
    clear hno hx
    by_cases hlt : k < beds.length
    · obtain ⟨b, o, e, hc⟩ := HR.out.ext (HX1.out.trans HXr.out) k hlt
      subst e
      have HT := Lib.hid (any_take (fun b => (hitS gin gout left inn b).2.2 == 1) beds hlt HNO.out)
      have HHI := Lib.hid (any_hit (fun b => (hitS gin gout left inn b).2.2 == 1) beds hlt)
      have HHIT := Lib.hid (HH.out beds[k] (List.getElem_mem hlt))
      have HC := Lib.hid hc
      generalize beds[k] = x at *
      obtain ⟨⟨hL, hI, E⟩, hH⟩ : ∃ y, hitS gin gout left inn x = y := ⟨_, rfl⟩
      rw [hH] at HHIT HT HHI
      simp only at HHIT HT HHI
      clear hc hH
      have hfld := run_stand_won (.int .i64 hL) (.bool hI) (.bool (E == 1)) (.bool (E == 2))
      have z0 : ∀ y : Later wr, y.world.cell? ⟨B, 0, none⟩ = some (.int .i64 start) := fun y => ((KC.out.ext HXr.out).ext y.ext).cell 0 rfl
      have z1 : ∀ y : Later wr, y.world.cell? ⟨B, 1, none⟩ = some (.int .i64 gin) := fun y => ((KC.out.ext HXr.out).ext y.ext).cell 1 rfl
      have z2 : ∀ y : Later wr, y.world.cell? ⟨B, 2, none⟩ = some (.int .i64 gout) := fun y => ((KC.out.ext HXr.out).ext y.ext).cell 2 rfl
      have s0 : ∀ y : Later wr, y.world.cell? ⟨B + 1, 0, none⟩ = some (.int .i64 left) := fun y => ((KS.out.ext HXr.out).ext y.ext).cell 0 rfl
      have s1 : ∀ y : Later wr, y.world.cell? ⟨B + 1, 1, none⟩ = some (.bool inn) := fun y => ((KS.out.ext HXr.out).ext y.ext).cell 1 rfl
      have s2 : ∀ y : Later wr, y.world.cell? ⟨B + 1, 2, none⟩ = some (.bool false) := fun y => ((KS.out.ext HXr.out).ext y.ext).cell 2 rfl
      have s3 : ∀ y : Later wr, y.world.cell? ⟨B + 1, 3, none⟩ = some (.bool false) := fun y => ((KS.out.ext HXr.out).ext y.ext).cell 3 rfl
      have x0 : ∀ y : Later wr, y.world.cell? ⟨b, o + k, none⟩ = some (.int .i64 x) := fun y => y.ext.cell HC.out
      have zl := (KC.out.ext HXr.out).lt
      have sl := (KS.out.ext HXr.out).lt
      have xl := lt_of_cell HC.out
      simp only at xl
      go_wp2_with fail
      refine wp_region_later (by kernel_rfl) (by kernel_rfl) ?_
      repeat (go_big_quiet_step (with_reducible refine Calls.later (HHIT.out _)))
      refine wpQuiet_nil ?_
      intro w5 hw5
      obtain ⟨⟨w5, hx5⟩, rfl⟩ := hw5
      have HX5 := Lib.hid hx5
      clear hx5 z0 z1 z2 s0 s1 s2 s3 x0 zl sl xl hfld
      cases hE : (E == 1)
      case true =>
        obtain rfl : F = true := by rw [← HF.out, HHI.out hE]
        go_wp2
        go_ret
        exact ⟨rfl, (HX1.out.trans HXr.out).trans HX5.out⟩
      case false =>
        have HE := Lib.hid hE
        go_wp2
        go_roundw
        case rel => exact ⟨k + 1, by omega, by go_num, HT.out.trans HE.out, HXr.out.trans HX5.out⟩
        case measure => simp [intOf]; omega
    · obtain rfl : k = beds.length := by omega
      have hF : F = false := by rw [← HF.out, ← HNO.out, List.take_of_length_le (Nat.le_refl _)]
      go_wp2
      go_ret
      exact ⟨ret_bool hF.symm, HX1.out.trans HXr.out⟩
/-- A list of beds, by the reference. -/
theorem beds_upto {l : List Int} {k : Nat} (h : bedsTo l k) (hk : l.length ≤ k) : bedsB l = true := (bedsB_iff l).2 fun i hi _ => h i hi (by omega)
set_option maxHeartbeats 2000000 in
theorem ref_Beds (beds : List Int) (ba : Option Addr) (bc : Nat) (w : World) (hR : CellsAt w .i64 ba beds) (hw : ∀ b ∈ beds, I64 b) (hn : beds.length ≤ 1000000) :
    Calls Try.prog 54 #[.slice ba beds.length bc] w fun e w' => e = .returned (.bool (bedsB beds && ins 1 82 [(beds.length : Int)])) ∧ Ext w w' := by
  have HR := Lib.hid hR
  have HW := Lib.hid hw
  have HN := Lib.hid hn
  have HIN := Lib.hid (fun W => ref_In (beds.length : Int) 1 82 W)
  rw [← insm_one] at HIN
  clear hR hw hn
  go_enter Try.func54, Try.ntmps54
  go_wp2
  go_loopw [3] (fun i wr => ∃ k : Nat, k ≤ beds.length ∧ i = .int .i64 k ∧ bedsTo beds k ∧ Ext w wr) (fun i _ => beds.length - (intOf i).toNat)
  case atStart => exact ⟨0, Nat.zero_le _, rfl, fun i _ h => absurd h (Nat.not_lt_zero _), Ext.refl w⟩
  case round =>
    obtain ⟨k, hk, rfl, hto, hx⟩ := hrel
    have HTO := Lib.hid hto
    have HXr := Lib.hid hx
    have hbn := HN.out
    clear hto hx
    by_cases hlt : k < beds.length
    · obtain ⟨b, o, e, hc⟩ := HR.out.ext HXr.out k hlt
      subst e
      have HBAD := Lib.hid (fun h => bedsB_false hlt h)
      have HGO := Lib.hid (fun h1 h2 => bedsTo_succ HTO.out hlt h1 h2)
      have HBED := Lib.hid (fun W => ref_Bed beds[k] W (HW.out _ (List.getElem_mem hlt)))
      have HC := Lib.hid hc
      have xl := lt_of_cell hc
      simp only at xl
      clear hc
      cases hbx : isBedB beds[k]
      case false =>
        have HBF := Lib.hid (HBAD.out (.inl hbx))
        rw [hbx] at HBED
        clear HBAD HGO HTO
        generalize beds[k] = x at *
        cases k with
        | zero =>
          have e0 : ((0 : Nat) : Int) = 0 := rfl
          rw [e0]
          have x0 : ∀ y : Later wr, y.world.cell? ⟨b, o, none⟩ = some (.int .i64 x) := fun y => y.ext.cell HC.out
          clear e0 hbx
          go_wp2_with fail
          refine wp_region_later (by kernel_rfl) (by kernel_rfl) ?_
          repeat (go_big_quiet_step (with_reducible refine Calls.later (HBED.out _)))
          refine wpQuiet_nil ?_
          intro w5 hw5
          obtain ⟨⟨w5, hx5⟩, rfl⟩ := hw5
          have HX5 := Lib.hid hx5
          clear hx5 x0 xl
          go_wp2
          go_ret
          exact ⟨ret_bool (by rw [HBF.out]; rfl), HXr.out.trans HX5.out⟩
        | succ k =>
          have x0 : ∀ y : Later wr, y.world.cell? ⟨b, o + (k + 1), none⟩ = some (.int .i64 x) := fun y => y.ext.cell HC.out
          clear hbx
          go_wp2_with fail
          refine wp_region_later (by kernel_rfl) (by kernel_rfl) ?_
          repeat (go_big_quiet_step (with_reducible refine Calls.later (HBED.out _)))
          refine wpQuiet_nil ?_
          intro w5 hw5
          obtain ⟨⟨w5, hx5⟩, rfl⟩ := hw5
          have HX5 := Lib.hid hx5
          clear hx5 x0 xl
          go_wp2
          go_ret
          exact ⟨ret_bool (by rw [HBF.out]; rfl), HXr.out.trans HX5.out⟩
      case true =>
        rw [hbx] at HBED
        cases k with
        | zero =>
          have HTO2 := Lib.hid (HGO.out hbx (fun h0 => absurd h0 (Nat.lt_irrefl 0)))
          clear HBAD HGO HTO
          generalize beds[0] = x at *
          have e0 : ((0 : Nat) : Int) = 0 := rfl
          rw [e0]
          have x0 : ∀ y : Later wr, y.world.cell? ⟨b, o, none⟩ = some (.int .i64 x) := fun y => y.ext.cell HC.out
          clear e0 hbx
          go_wp2_with fail
          refine wp_region_later (by kernel_rfl) (by kernel_rfl) ?_
          repeat (go_big_quiet_step (with_reducible refine Calls.later (HBED.out _)))
          refine wpQuiet_nil ?_
          intro w5 hw5
          obtain ⟨⟨w5, hx5⟩, rfl⟩ := hw5
          have HX5 := Lib.hid hx5
          clear hx5 x0 xl
          go_wp2
          go_roundw
          case rel => exact ⟨1, by omega, by go_num, HTO2.out, HXr.out.trans HX5.out⟩
          case measure => simp [intOf]; omega
        | succ j =>
          obtain ⟨_, _, e, y0'⟩ := HR.out.ext HXr.out j (by omega)
          cases e
          have HY := Lib.hid y0'
          have yl := lt_of_cell y0'
          simp only at yl
          have hwj : wrap64 ((j : Nat) : Int) = (j : Int) := wrap64_in' ⟨by omega, by have := HN.out; omega⟩
          clear y0'
          cases d7 : decide (beds[j + 1] ≤ beds[j])
          case true =>
            have HBF := Lib.hid (HBAD.out (.inr ⟨by omega, of_decide_eq_true d7⟩))
            clear HBAD HGO HTO
            generalize beds[j + 1] = x at *
            generalize beds[j] = z at *
            have x0 : ∀ y : Later wr, y.world.cell? ⟨b, o + (j + 1), none⟩ = some (.int .i64 x) := fun y => y.ext.cell HC.out
            have y0 : ∀ y : Later wr, y.world.cell? ⟨b, o + j, none⟩ = some (.int .i64 z) := fun y => y.ext.cell HY.out
            clear hbx
            go_wp2_with fail
            refine wp_region_later (by kernel_rfl) (by kernel_rfl) ?_
            repeat (go_big_quiet_step (with_reducible refine Calls.later (HBED.out _)))
            refine wpQuiet_nil ?_
            intro w5 hw5
            obtain ⟨⟨w5, hx5⟩, rfl⟩ := hw5
            have HX5 := Lib.hid hx5
            clear hx5 x0 xl y0 yl
            go_wp2
            go_ret
            exact ⟨ret_bool (by rw [HBF.out]; rfl), HXr.out.trans HX5.out⟩
          case false =>
            have HTO2 := Lib.hid (HGO.out hbx (fun _ => by have := of_decide_eq_false d7; simp only [Nat.add_sub_cancel]; omega))
            clear HBAD HGO HTO
            generalize beds[j + 1] = x at *
            generalize beds[j] = z at *
            have x0 : ∀ y : Later wr, y.world.cell? ⟨b, o + (j + 1), none⟩ = some (.int .i64 x) := fun y => y.ext.cell HC.out
            have y0 : ∀ y : Later wr, y.world.cell? ⟨b, o + j, none⟩ = some (.int .i64 z) := fun y => y.ext.cell HY.out
            clear hbx
            go_wp2_with fail
            refine wp_region_later (by kernel_rfl) (by kernel_rfl) ?_
            repeat (go_big_quiet_step (with_reducible refine Calls.later (HBED.out _)))
            refine wpQuiet_nil ?_
            intro w5 hw5
            obtain ⟨⟨w5, hx5⟩, rfl⟩ := hw5
            have HX5 := Lib.hid hx5
            clear hx5 x0 xl y0 yl
            go_wp2
            go_roundw
            case rel => exact ⟨j + 1 + 1, by omega, by go_num, HTO2.out, HXr.out.trans HX5.out⟩
            case measure => simp [intOf]; omega
    · obtain rfl : k = beds.length := by omega
      have HB := Lib.hid (beds_upto HTO.out (Nat.le_refl _))
      go_wp2_with fail
      refine (HIN.out _).mono ?_
      rintro e w5 ⟨rfl, hx5⟩
      go_wp2
      go_ret
      exact ⟨ret_bool (by rw [HB.out]; rfl), HXr.out.trans hx5⟩
end Go.Proofs.Ytmopadnkjlodnaa
