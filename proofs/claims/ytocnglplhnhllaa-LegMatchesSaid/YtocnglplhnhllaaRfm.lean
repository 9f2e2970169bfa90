/-
  The reference of chapter 3: Valid, Match.
-/
import Derived.Test.YtocnglplhnhllaaRfa
import Derived.Test.YtocnglplhnhllaaMaw
namespace Go.Proofs.Ytocnglplhnhllaa
open Go.RowKit Go.BigFrame
attribute [local go_sem] Later.cell Later.frozen
theorem mt_cells {w : World} {b : Nat} {m : Mt} (h : Blk w b #[.int .i64 m.legs, .int .i64 m.sets, .int .i64 m.clear, .int .i64 m.extra, .int .i64 m.first]) :
    w.cell? ⟨b, 0, none⟩ = some (.int .i64 m.legs) ∧ w.cell? ⟨b, 1, none⟩ = some (.int .i64 m.sets) ∧ w.cell? ⟨b, 2, none⟩ = some (.int .i64 m.clear) ∧ w.cell? ⟨b, 3, none⟩ = some (.int .i64 m.extra) ∧ w.cell? ⟨b, 4, none⟩ = some (.int .i64 m.first) ∧ b < w.heap.size :=
  ⟨h.cell 0 rfl, h.cell 1 rfl, h.cell 2 rfl, h.cell 3 rfl, h.cell 4 rfl, h.lt⟩
theorem ref_Valid (m : Mt) (w : World) : Calls Try.prog 60 #[.agg #[.int .i64 m.legs, .int .i64 m.sets, .int .i64 m.clear, .int .i64 m.extra, .int .i64 m.first]] w fun e w' => e = .returned (.bool m.ok) ∧ Ext w w' := by
  obtain ⟨legs, sets, clear, extra, first⟩ := m
  have HE : Hid (Mt.ok ⟨legs, sets, clear, extra, first⟩ = (ins 1 25 [legs] && (ins 1 25 [sets] && (ins 1 2 [clear] && (ins 0 25 [extra] && ins 0 1 [first]))))) := Lib.hid rfl
  simp only
  generalize Mt.ok ⟨legs, sets, clear, extra, first⟩ = v at *
  go_enter Try.func60, Try.ntmps60
  go_wp2_with fail
  refine (ref_In _ _ _ _).mono ?_
  rintro e w1 ⟨rfl, rfl⟩
  cases h1 : ins 1 25 [legs]
  · go_wp2
    go_ret
    exact ⟨ret_bool (by rw [HE.out]; simp [*]), (Ext.refl w).alloc _⟩
  go_wp2_with fail
  refine (ref_In _ _ _ _).mono ?_
  rintro e w1 ⟨rfl, rfl⟩
  cases h2 : ins 1 25 [sets]
  · go_wp2
    go_ret
    exact ⟨ret_bool (by rw [HE.out]; simp [*]), (Ext.refl w).alloc _⟩
  go_wp2_with fail
  refine (ref_In _ _ _ _).mono ?_
  rintro e w1 ⟨rfl, rfl⟩
  cases h3 : ins 1 2 [clear]
  · go_wp2
    go_ret
    exact ⟨ret_bool (by rw [HE.out]; simp [*]), (Ext.refl w).alloc _⟩
  go_wp2_with fail
  refine (ref_In _ _ _ _).mono ?_
  rintro e w1 ⟨rfl, rfl⟩
  cases h4 : ins 0 25 [extra]
  · go_wp2
    go_ret
    exact ⟨ret_bool (by rw [HE.out]; simp [*]), (Ext.refl w).alloc _⟩
  go_wp2_with fail
  refine (ref_In _ _ _ _).mono ?_
  rintro e w1 ⟨rfl, rfl⟩
  go_wp2
  go_ret
  exact ⟨ret_bool (by rw [HE.out]; simp [*]), (Ext.refl w).alloc _⟩
theorem matW_over {m : Mt} {x : Sc} (h : 0 ≤ x.winner) (l : List Int) (i s s' : Int) : matW m l i x s = matW m l i x s' := by
  cases l with
  | nil => rfl
  | cons p l => unfold matW; rw [if_pos (decide_eq_true h), if_pos (decide_eq_true h)]
theorem Sc.inv_over {x : Sc} {s s' k : Int} (h : x.inv s k) (hw : 0 ≤ x.winner) (hs : 0 ≤ s' ∧ s' ≤ 1) : x.inv s' k := by
  unfold Sc.inv at *
  exact ⟨h.1, h.2.1, hs, fun h => by omega⟩
theorem add_def0 (m : Mt) (s0 s1 l0 l1 first winner set : Int) : m.add ⟨s0, s1, l0, l1, first, winner⟩ set 0 =
    if (if l0 + 1 < m.legs then false else if (s0 == m.sets - 1 && s1 == m.sets - 1) = true then decide (m.clear ≤ l0 + 1 - l1) || l0 + 1 == m.legs + m.extra else true) = false then (⟨s0, s1, l0 + 1, l1, 1 - first, winner⟩, set)
    else if (s0 + 1 == m.sets) = true then (⟨s0 + 1, s1, l0 + 1, l1, -1, 0⟩, set) else (⟨s0 + 1, s1, 0, 0, 1 - set, winner⟩, 1 - set) := by
  simp only [Mt.add, Mt.has, Sc.up, Sc.legsOf, Int.reduceEq, Int.reduceSub, ↓reduceIte, decide_eq_true_eq]
theorem add_def1 (m : Mt) (s0 s1 l0 l1 first winner set : Int) : m.add ⟨s0, s1, l0, l1, first, winner⟩ set 1 =
    if (if l1 + 1 < m.legs then false else if (s0 == m.sets - 1 && s1 == m.sets - 1) = true then decide (m.clear ≤ l1 + 1 - l0) || l1 + 1 == m.legs + m.extra else true) = false then (⟨s0, s1, l0, l1 + 1, 1 - first, winner⟩, set)
    else if (s1 + 1 == m.sets) = true then (⟨s0, s1 + 1, l0, l1 + 1, -1, 1⟩, set) else (⟨s0, s1 + 1, 0, 0, 1 - set, winner⟩, 1 - set) := by
  simp only [Mt.add, Mt.has, Sc.up, Sc.legsOf, Int.reduceEq, Int.reduceSub, ↓reduceIte, decide_eq_true_eq]
set_option maxRecDepth 100000 in
set_option maxHeartbeats 4000000 in
theorem ref_Match (m : Mt) (l : List Int) (a : Option Addr) (c : Nat) (w : World) (ha : CellsAt w .i64 a l) (hlen : l.length ≤ 1000000000000) (T : Sc × Int × Int) (hT : matS m l = T) :
    Calls Try.prog 32 #[.agg #[.int .i64 m.legs, .int .i64 m.sets, .int .i64 m.clear, .int .i64 m.extra, .int .i64 m.first], .slice a l.length c] w fun e w' => e = .returned (.tuple #[T.1.agg, .int .i64 T.2.1, .int .i64 T.2.2]) ∧ Ext w w' := by
  have HT := Lib.hid hT
  have hA := Lib.hid ha
  clear hT ha
  go_enter Try.func32, Try.ntmps32
  go_wp2_with fail
  refine (ref_Valid m _).mono ?_
  rintro e w1 ⟨rfl, hx1⟩
  have hb : Blk w1 w.heap.size #[.int .i64 m.legs, .int .i64 m.sets, .int .i64 m.clear, .int .i64 m.extra, .int .i64 m.first] := ((Blk.at _ (by simp)).alloc _).ext hx1
  have hz : Blk w1 (w.heap.size + 1) #[.int .i64 0, .int .i64 0, .int .i64 0, .int .i64 0, .int .i64 0, .int .i64 0] := (Blk.at _ (by simp)).ext hx1
  have hE := (((Ext.refl w).alloc (.cells #[.int .i64 m.legs, .int .i64 m.sets, .int .i64 m.clear, .int .i64 m.extra, .int .i64 m.first] 68)).alloc _).trans hx1
  clear hx1
  cases hok : m.ok
  case false =>
    obtain ⟨⟨z0, z1, z2, z3, z4, z5⟩, zs, f0, f1, f2, f3, f4, f5⟩ := hz.six
    clear hz hb
    go_wp2
    refine bodyPost_ret (v := .tuple #[Sc.zero.agg, .int .i64 0, .int .i64 2]) (by simp [results, Try.results32, go_sem, Sc.zero, Sc.agg, *]) rfl ⟨?_, six_ext hE (by simp) _ _ _ _ _ _⟩
    rw [← HT.out]; simp [matS, hok]
  have hm := Mt.ok_bounds hok
  obtain ⟨c0, c1, c2, c3, c4, cs⟩ := mt_cells hb
  have HZ0 := Lib.hid hz
  have HM0 := Lib.hid hb
  have hzlt := hz.lt
  clear hb hz
  go_wp2
  clear c0 c1 c2 c3 c4
  generalize hN : w1.heap.size = N at *
  have hN2 : w.heap.size + 1 < N := by omega
  have hb0 : Blk (w1.alloc (.cells #[.int .i64 0, .int .i64 0, .int .i64 0, .int .i64 0, .int .i64 m.first, .int .i64 (-1)] 71)) N #[.int .i64 0, .int .i64 0, .int .i64 0, .int .i64 0, .int .i64 m.first, .int .i64 (-1)] := Blk.at _ hN.symm
  have HB0 := Lib.hid hb0
  clear hN hb0 hzlt cs
  go_loopw [8, 9] (fun sv i wr => ∃ (k : Nat) (x : Sc) (set : Int), k ≤ l.length ∧ sv = .int .i64 set ∧ i = .int .i64 k ∧ T = matE (matW m (l.drop k) k x set) ∧ x.inv set k ∧ Blk wr N #[.int .i64 x.s0, .int .i64 x.s1, .int .i64 x.l0, .int .i64 x.l1, .int .i64 x.first, .int .i64 x.winner] ∧
      Blk wr (w.heap.size + 1) #[.int .i64 0, .int .i64 0, .int .i64 0, .int .i64 0, .int .i64 0, .int .i64 0] ∧ Blk wr w.heap.size #[.int .i64 m.legs, .int .i64 m.sets, .int .i64 m.clear, .int .i64 m.extra, .int .i64 m.first] ∧ Ext w wr) (fun _ i _ => l.length - (intOf i).toNat)
  case atStart =>
    refine ⟨0, ⟨0, 0, 0, 0, m.first, -1⟩, m.first, Nat.zero_le _, rfl, rfl, ?_, ?_, HB0.out, HZ0.out.alloc _, HM0.out.alloc _, hE.alloc _⟩
    · rw [← HT.out]; simp [matS, hok]
    · unfold Sc.inv; simp only; omega
  case round =>
    obtain ⟨k, x, set, hk, rfl, rfl, hS, hinv, hB, hZ, hM, hx⟩ := hrel
    obtain ⟨s0, s1, l0, l1, first, winner⟩ := x
    have HS := Lib.hid hS
    have HI := Lib.hid hinv
    have HB := Lib.hid hB
    have HM := Lib.hid hM
    have HZ := Lib.hid hZ
    have HE := Lib.hid hx
    unfold Sc.inv at hinv
    simp only at hinv hB
    have hwin := Lib.hid hinv.2.2.2
    obtain ⟨⟨i1, i2, i3, i4⟩, i5, i6, -⟩ := hinv
    clear hS hB hM hZ HT HZ0 HM0 HB0 hE
    obtain ⟨⟨v0, v1, v2, v3, v4, v5⟩, vs, g0, g1, g2, g3, g4, g5⟩ := HB.out.six
    obtain ⟨⟨z0, z1, z2, z3, z4, z5⟩, zs, f0, f1, f2, f3, f4, f5⟩ := HZ.out.six
    by_cases hlt : k < l.length
    · obtain ⟨b, off, rfl, hc0⟩ := hA.out k hlt
      replace hc0 := hx.cell hc0
      have hdrop : l.drop k = l[k] :: l.drop (k + 1) := by simp
      have hS1 := HS.out
      rw [hdrop] at hS1
      unfold matW at hS1
      simp only at hS1
      clear hdrop HS
      cases e1 : decide (0 ≤ winner)
      · rw [if_neg (by rw [e1]; simp)] at hS1
        have hw0 : winner < 0 := by have : ¬ 0 ≤ winner := by simpa using e1
                                    omega
        have hI1 := fun p hp => Sc.inv_add (m := m) (p := p) HI.out hp hw0
        have hf0 := hwin.out hw0
        cases hp0 : l[k] == 0
        · cases hp1 : l[k] == 1
          · have hin : ins 0 1 [l[k]] = false := by
              have h0 : l[k] ≠ 0 := by simpa using hp0
              have h1 : l[k] ≠ 1 := by simpa using hp1
              cases hi : ins 0 1 [l[k]]
              · rfl
              · have := ins_one.1 hi; omega
            rw [if_pos hin] at hS1
            have HS1 := Lib.hid hS1
            have hq0 : (l[k] != 0) = true := by simp [bne, hp0]
            have hq1 : (l[k] != 1) = true := by simp [bne, hp1]
            clear hS1 hI1 hin
            go_wp2
            refine bodyPost_ret (v := .tuple #[Sc.zero.agg, .int .i64 k, .int .i64 2]) (by simp [results, Try.results32, go_sem, Sc.zero, Sc.agg, *]) rfl ⟨?_, six_ext HE.out (by omega) _ _ _ _ _ _⟩
            rw [HS1.out]; simp [matE]
          · have hp : l[k] = 1 := by simpa using hp1
            rw [hp] at hS1 hc0
            rw [if_neg (by decide)] at hS1
            replace hI1 := hI1 1 (.inr rfl)
            clear z0 z1 z2 z3 z4 z5 zs f0 f1 f2 f3 f4 f5 v0 v1 v2 v3 v4 v5 vs g0 g1 g2 g3 g4 g5 hx hp0 hp1
            have hR : m.add ⟨s0, s1, l0, l1, first, winner⟩ set 1 = _ := add_def1 m s0 s1 l0 l1 first winner set
            obtain ⟨R, hRR⟩ : ∃ R, m.add ⟨s0, s1, l0, l1, first, winner⟩ set 1 = R := ⟨_, rfl⟩
            rw [hRR] at hS1 hI1 hR
            have HR := Lib.hid hR
            have HS1 := Lib.hid hS1
            have HI1 := Lib.hid hI1
            clear hR hRR hS1 hI1
            obtain ⟨⟨v0, v1, v2, v3, v4, v5⟩, vs, g0, g1, g2, g3, g4, g5⟩ := HB.out.six
            obtain ⟨c0, c1, c2, c3, c4, cs⟩ := mt_cells HM.out
            go_wp2
            have hb0 : Blk _ N #[.int .i64 (s0), .int .i64 (s1), .int .i64 (l0), .int .i64 (l1 + 1), .int .i64 (first), .int .i64 (winner)] := (HB.out).set 3 (.int .i64 (l1 + 1))
            have hb1 : Blk _ N #[.int .i64 (s0), .int .i64 (s1), .int .i64 (l0), .int .i64 (l1 + 1), .int .i64 (1 - first), .int .i64 (winner)] := (hb0).set 4 (.int .i64 (1 - first))
            have hm9 := ((HM.out.other (a := ⟨N, 3, none⟩) (by show (_ : Nat) ≠ N; omega) (.int .i64 (l1 + 1))).other (a := ⟨N, 4, none⟩) (by show (_ : Nat) ≠ N; omega) (.int .i64 (1 - first)))
            have hz9 := ((HZ.out.other (a := ⟨N, 3, none⟩) (by show (_ : Nat) ≠ N; omega) (.int .i64 (l1 + 1))).other (a := ⟨N, 4, none⟩) (by show (_ : Nat) ≠ N; omega) (.int .i64 (1 - first)))
            have he9 := ((HE.out.setCell (p := ⟨N, 3, none⟩) (by show w.heap.size ≤ N; omega) (.int .i64 (l1 + 1))).setCell (p := ⟨N, 4, none⟩) (by show w.heap.size ≤ N; omega) (.int .i64 (1 - first)))
            replace HB := Lib.hid hb1
            replace HM := Lib.hid hm9
            replace HZ := Lib.hid hz9
            replace HE := Lib.hid he9
            clear hb0 hb1 hm9 hz9 he9
            generalize World.setCell _ _ _ = w3 at *
            clear v0 v1 v2 v3 v4 v5 vs g0 g1 g2 g3 g4 g5 c0 c1 c2 c3 c4 cs
            obtain ⟨⟨v0, v1, v2, v3, v4, v5⟩, vs, g0, g1, g2, g3, g4, g5⟩ := HB.out.six
            obtain ⟨c0, c1, c2, c3, c4, cs⟩ := mt_cells HM.out
            try simp only [hA]
            refine wp_region_later (by kernel_rfl) (by kernel_rfl) ?_
            repeat (go_big_quiet_step (fail))
            refine wpQuiet_nil ?_
            intro wq hwq
            obtain ⟨⟨wq, hxq⟩, rfl⟩ := hwq
            replace HB := Lib.hid (HB.out.ext hxq)
            replace HM := Lib.hid (HM.out.ext hxq)
            replace HZ := Lib.hid (HZ.out.ext hxq)
            replace HE := Lib.hid (HE.out.trans hxq)
            clear hxq
            clear v0 v1 v2 v3 v4 v5 vs g0 g1 g2 g3 g4 g5 c0 c1 c2 c3 c4 cs
            obtain ⟨⟨v0, v1, v2, v3, v4, v5⟩, vs, g0, g1, g2, g3, g4, g5⟩ := HB.out.six
            obtain ⟨c0, c1, c2, c3, c4, cs⟩ := mt_cells HM.out
            cases hA : decide (m.legs ≤ l1 + 1)
            · cases h3 : s0 == m.sets - 1
              · go_wp2
                go_roundw
                case rel => exact ⟨k + 1, R.1, R.2, by omega, by rw [show R = (⟨s0, s1, l0, l1 + 1, 1 - first, winner⟩, set) by rw [HR.out]; simp [show l1 + 1 < m.legs by have := of_decide_eq_false hA; omega]], by go_num, HS1.out, HI1.out, by rw [show R = (⟨s0, s1, l0, l1 + 1, 1 - first, winner⟩, set) by rw [HR.out]; simp [show l1 + 1 < m.legs by have := of_decide_eq_false hA; omega]]; exact HB.out, HZ.out, HM.out, HE.out⟩
                case measure => simp [intOf]; omega
              · cases h4 : s1 == m.sets - 1
                · go_wp2
                  go_roundw
                  case rel => exact ⟨k + 1, R.1, R.2, by omega, by rw [show R = (⟨s0, s1, l0, l1 + 1, 1 - first, winner⟩, set) by rw [HR.out]; simp [show l1 + 1 < m.legs by have := of_decide_eq_false hA; omega]], by go_num, HS1.out, HI1.out, by rw [show R = (⟨s0, s1, l0, l1 + 1, 1 - first, winner⟩, set) by rw [HR.out]; simp [show l1 + 1 < m.legs by have := of_decide_eq_false hA; omega]]; exact HB.out, HZ.out, HM.out, HE.out⟩
                  case measure => simp [intOf]; omega
                · go_wp2
                  try simp only [hA]
                  refine wp_region_later (by kernel_rfl) (by kernel_rfl) ?_
                  repeat (go_big_quiet_step (fail))
                  refine wpQuiet_nil ?_
                  intro wq hwq
                  obtain ⟨⟨wq, hxq⟩, rfl⟩ := hwq
                  replace HB := Lib.hid (HB.out.ext hxq)
                  replace HM := Lib.hid (HM.out.ext hxq)
                  replace HZ := Lib.hid (HZ.out.ext hxq)
                  replace HE := Lib.hid (HE.out.trans hxq)
                  clear hxq
                  clear v0 v1 v2 v3 v4 v5 vs g0 g1 g2 g3 g4 g5 c0 c1 c2 c3 c4 cs
                  obtain ⟨⟨v0, v1, v2, v3, v4, v5⟩, vs, g0, g1, g2, g3, g4, g5⟩ := HB.out.six
                  obtain ⟨c0, c1, c2, c3, c4, cs⟩ := mt_cells HM.out
                  go_wp2
                  go_roundw
                  case rel => exact ⟨k + 1, R.1, R.2, by omega, by rw [show R = (⟨s0, s1, l0, l1 + 1, 1 - first, winner⟩, set) by rw [HR.out]; simp [show l1 + 1 < m.legs by have := of_decide_eq_false hA; omega]], by go_num, HS1.out, HI1.out, by rw [show R = (⟨s0, s1, l0, l1 + 1, 1 - first, winner⟩, set) by rw [HR.out]; simp [show l1 + 1 < m.legs by have := of_decide_eq_false hA; omega]]; exact HB.out, HZ.out, HM.out, HE.out⟩
                  case measure => simp [intOf]; omega
            · cases h3 : s0 == m.sets - 1
              · go_wp2
                have hb0 : Blk _ N #[.int .i64 (s0), .int .i64 (s1 + 1), .int .i64 (l0), .int .i64 (l1 + 1), .int .i64 (1 - first), .int .i64 (winner)] := (HB.out).set 1 (.int .i64 (s1 + 1))
                have hm9 := (HM.out.other (a := ⟨N, 1, none⟩) (by show (_ : Nat) ≠ N; omega) (.int .i64 (s1 + 1)))
                have hz9 := (HZ.out.other (a := ⟨N, 1, none⟩) (by show (_ : Nat) ≠ N; omega) (.int .i64 (s1 + 1)))
                have he9 := (HE.out.setCell (p := ⟨N, 1, none⟩) (by show w.heap.size ≤ N; omega) (.int .i64 (s1 + 1)))
                replace HB := Lib.hid hb0
                replace HM := Lib.hid hm9
                replace HZ := Lib.hid hz9
                replace HE := Lib.hid he9
                clear hb0 hm9 hz9 he9
                generalize World.setCell _ _ _ = w5 at *
                clear v0 v1 v2 v3 v4 v5 vs g0 g1 g2 g3 g4 g5 c0 c1 c2 c3 c4 cs
                obtain ⟨⟨v0, v1, v2, v3, v4, v5⟩, vs, g0, g1, g2, g3, g4, g5⟩ := HB.out.six
                obtain ⟨c0, c1, c2, c3, c4, cs⟩ := mt_cells HM.out
                try simp only [hA]
                refine wp_region_later (by kernel_rfl) (by kernel_rfl) ?_
                repeat (go_big_quiet_step (fail))
                refine wpQuiet_nil ?_
                intro wq hwq
                obtain ⟨⟨wq, hxq⟩, rfl⟩ := hwq
                replace HB := Lib.hid (HB.out.ext hxq)
                replace HM := Lib.hid (HM.out.ext hxq)
                replace HZ := Lib.hid (HZ.out.ext hxq)
                replace HE := Lib.hid (HE.out.trans hxq)
                clear hxq
                clear v0 v1 v2 v3 v4 v5 vs g0 g1 g2 g3 g4 g5 c0 c1 c2 c3 c4 cs
                obtain ⟨⟨v0, v1, v2, v3, v4, v5⟩, vs, g0, g1, g2, g3, g4, g5⟩ := HB.out.six
                obtain ⟨c0, c1, c2, c3, c4, cs⟩ := mt_cells HM.out
                cases h7 : s1 + 1 == m.sets
                · go_wp2
                  have hb0 : Blk _ N #[.int .i64 (s0), .int .i64 (s1 + 1), .int .i64 (0), .int .i64 (l1 + 1), .int .i64 (1 - first), .int .i64 (winner)] := (HB.out).set 2 (.int .i64 (0))
                  have hb1 : Blk _ N #[.int .i64 (s0), .int .i64 (s1 + 1), .int .i64 (0), .int .i64 (0), .int .i64 (1 - first), .int .i64 (winner)] := (hb0).set 3 (.int .i64 (0))
                  have hb2 : Blk _ N #[.int .i64 (s0), .int .i64 (s1 + 1), .int .i64 (0), .int .i64 (0), .int .i64 (1 - set), .int .i64 (winner)] := (hb1).set 4 (.int .i64 (1 - set))
                  have hm9 := (((HM.out.other (a := ⟨N, 2, none⟩) (by show (_ : Nat) ≠ N; omega) (.int .i64 (0))).other (a := ⟨N, 3, none⟩) (by show (_ : Nat) ≠ N; omega) (.int .i64 (0))).other (a := ⟨N, 4, none⟩) (by show (_ : Nat) ≠ N; omega) (.int .i64 (1 - set)))
                  have hz9 := (((HZ.out.other (a := ⟨N, 2, none⟩) (by show (_ : Nat) ≠ N; omega) (.int .i64 (0))).other (a := ⟨N, 3, none⟩) (by show (_ : Nat) ≠ N; omega) (.int .i64 (0))).other (a := ⟨N, 4, none⟩) (by show (_ : Nat) ≠ N; omega) (.int .i64 (1 - set)))
                  have he9 := (((HE.out.setCell (p := ⟨N, 2, none⟩) (by show w.heap.size ≤ N; omega) (.int .i64 (0))).setCell (p := ⟨N, 3, none⟩) (by show w.heap.size ≤ N; omega) (.int .i64 (0))).setCell (p := ⟨N, 4, none⟩) (by show w.heap.size ≤ N; omega) (.int .i64 (1 - set)))
                  replace HB := Lib.hid hb2
                  replace HM := Lib.hid hm9
                  replace HZ := Lib.hid hz9
                  replace HE := Lib.hid he9
                  clear hb0 hb1 hb2 hm9 hz9 he9
                  go_roundw
                  case rel => exact ⟨k + 1, R.1, R.2, by omega, by rw [show R = (⟨s0, s1 + 1, 0, 0, 1 - set, winner⟩, 1 - set) by rw [HR.out]; simp [show ¬ l1 + 1 < m.legs by have := of_decide_eq_true hA; omega, h3, h7]], by go_num, HS1.out, HI1.out, by rw [show R = (⟨s0, s1 + 1, 0, 0, 1 - set, winner⟩, 1 - set) by rw [HR.out]; simp [show ¬ l1 + 1 < m.legs by have := of_decide_eq_true hA; omega, h3, h7]]; exact HB.out, HZ.out, HM.out, HE.out⟩
                  case measure => simp [intOf]; omega
                · go_wp2
                  have hb0 : Blk _ N #[.int .i64 (s0), .int .i64 (s1 + 1), .int .i64 (l0), .int .i64 (l1 + 1), .int .i64 (-1), .int .i64 (winner)] := (HB.out).set 4 (.int .i64 (-1))
                  have hb1 : Blk _ N #[.int .i64 (s0), .int .i64 (s1 + 1), .int .i64 (l0), .int .i64 (l1 + 1), .int .i64 (-1), .int .i64 (1)] := (hb0).set 5 (.int .i64 (1))
                  have hm9 := ((HM.out.other (a := ⟨N, 4, none⟩) (by show (_ : Nat) ≠ N; omega) (.int .i64 (-1))).other (a := ⟨N, 5, none⟩) (by show (_ : Nat) ≠ N; omega) (.int .i64 (1)))
                  have hz9 := ((HZ.out.other (a := ⟨N, 4, none⟩) (by show (_ : Nat) ≠ N; omega) (.int .i64 (-1))).other (a := ⟨N, 5, none⟩) (by show (_ : Nat) ≠ N; omega) (.int .i64 (1)))
                  have he9 := ((HE.out.setCell (p := ⟨N, 4, none⟩) (by show w.heap.size ≤ N; omega) (.int .i64 (-1))).setCell (p := ⟨N, 5, none⟩) (by show w.heap.size ≤ N; omega) (.int .i64 (1)))
                  replace HB := Lib.hid hb1
                  replace HM := Lib.hid hm9
                  replace HZ := Lib.hid hz9
                  replace HE := Lib.hid he9
                  clear hb0 hb1 hm9 hz9 he9
                  have hRe : R = (⟨s0, s1 + 1, l0, l1 + 1, -1, 1⟩, set) := by rw [HR.out]; simp [show ¬ l1 + 1 < m.legs by have := of_decide_eq_true hA; omega, h3, h7]
                  have HRe := Lib.hid hRe
                  clear hRe
                  go_roundw
                  case rel => exact ⟨k + 1, R.1, 1 - set, by omega, rfl, by go_num, by rw [HS1.out]; exact congrArg matE (matW_over (by rw [HRe.out]; simp) _ _ _ _), Sc.inv_over HI1.out (by rw [HRe.out]; simp) ⟨by omega, by omega⟩, by rw [HRe.out]; exact HB.out, HZ.out, HM.out, HE.out⟩
                  case measure => simp [intOf]; omega
              · cases h4 : s1 == m.sets - 1
                · go_wp2
                  have hb0 : Blk _ N #[.int .i64 (s0), .int .i64 (s1 + 1), .int .i64 (l0), .int .i64 (l1 + 1), .int .i64 (1 - first), .int .i64 (winner)] := (HB.out).set 1 (.int .i64 (s1 + 1))
                  have hm9 := (HM.out.other (a := ⟨N, 1, none⟩) (by show (_ : Nat) ≠ N; omega) (.int .i64 (s1 + 1)))
                  have hz9 := (HZ.out.other (a := ⟨N, 1, none⟩) (by show (_ : Nat) ≠ N; omega) (.int .i64 (s1 + 1)))
                  have he9 := (HE.out.setCell (p := ⟨N, 1, none⟩) (by show w.heap.size ≤ N; omega) (.int .i64 (s1 + 1)))
                  replace HB := Lib.hid hb0
                  replace HM := Lib.hid hm9
                  replace HZ := Lib.hid hz9
                  replace HE := Lib.hid he9
                  clear hb0 hm9 hz9 he9
                  generalize World.setCell _ _ _ = w5 at *
                  clear v0 v1 v2 v3 v4 v5 vs g0 g1 g2 g3 g4 g5 c0 c1 c2 c3 c4 cs
                  obtain ⟨⟨v0, v1, v2, v3, v4, v5⟩, vs, g0, g1, g2, g3, g4, g5⟩ := HB.out.six
                  obtain ⟨c0, c1, c2, c3, c4, cs⟩ := mt_cells HM.out
                  try simp only [hA]
                  refine wp_region_later (by kernel_rfl) (by kernel_rfl) ?_
                  repeat (go_big_quiet_step (fail))
                  refine wpQuiet_nil ?_
                  intro wq hwq
                  obtain ⟨⟨wq, hxq⟩, rfl⟩ := hwq
                  replace HB := Lib.hid (HB.out.ext hxq)
                  replace HM := Lib.hid (HM.out.ext hxq)
                  replace HZ := Lib.hid (HZ.out.ext hxq)
                  replace HE := Lib.hid (HE.out.trans hxq)
                  clear hxq
                  clear v0 v1 v2 v3 v4 v5 vs g0 g1 g2 g3 g4 g5 c0 c1 c2 c3 c4 cs
                  obtain ⟨⟨v0, v1, v2, v3, v4, v5⟩, vs, g0, g1, g2, g3, g4, g5⟩ := HB.out.six
                  obtain ⟨c0, c1, c2, c3, c4, cs⟩ := mt_cells HM.out
                  cases h7 : s1 + 1 == m.sets
                  · go_wp2
                    have hb0 : Blk _ N #[.int .i64 (s0), .int .i64 (s1 + 1), .int .i64 (0), .int .i64 (l1 + 1), .int .i64 (1 - first), .int .i64 (winner)] := (HB.out).set 2 (.int .i64 (0))
                    have hb1 : Blk _ N #[.int .i64 (s0), .int .i64 (s1 + 1), .int .i64 (0), .int .i64 (0), .int .i64 (1 - first), .int .i64 (winner)] := (hb0).set 3 (.int .i64 (0))
                    have hb2 : Blk _ N #[.int .i64 (s0), .int .i64 (s1 + 1), .int .i64 (0), .int .i64 (0), .int .i64 (1 - set), .int .i64 (winner)] := (hb1).set 4 (.int .i64 (1 - set))
                    have hm9 := (((HM.out.other (a := ⟨N, 2, none⟩) (by show (_ : Nat) ≠ N; omega) (.int .i64 (0))).other (a := ⟨N, 3, none⟩) (by show (_ : Nat) ≠ N; omega) (.int .i64 (0))).other (a := ⟨N, 4, none⟩) (by show (_ : Nat) ≠ N; omega) (.int .i64 (1 - set)))
                    have hz9 := (((HZ.out.other (a := ⟨N, 2, none⟩) (by show (_ : Nat) ≠ N; omega) (.int .i64 (0))).other (a := ⟨N, 3, none⟩) (by show (_ : Nat) ≠ N; omega) (.int .i64 (0))).other (a := ⟨N, 4, none⟩) (by show (_ : Nat) ≠ N; omega) (.int .i64 (1 - set)))
                    have he9 := (((HE.out.setCell (p := ⟨N, 2, none⟩) (by show w.heap.size ≤ N; omega) (.int .i64 (0))).setCell (p := ⟨N, 3, none⟩) (by show w.heap.size ≤ N; omega) (.int .i64 (0))).setCell (p := ⟨N, 4, none⟩) (by show w.heap.size ≤ N; omega) (.int .i64 (1 - set)))
                    replace HB := Lib.hid hb2
                    replace HM := Lib.hid hm9
                    replace HZ := Lib.hid hz9
                    replace HE := Lib.hid he9
                    clear hb0 hb1 hb2 hm9 hz9 he9
                    go_roundw
                    case rel => exact ⟨k + 1, R.1, R.2, by omega, by rw [show R = (⟨s0, s1 + 1, 0, 0, 1 - set, winner⟩, 1 - set) by rw [HR.out]; simp [show ¬ l1 + 1 < m.legs by have := of_decide_eq_true hA; omega, h3, h4, h7]], by go_num, HS1.out, HI1.out, by rw [show R = (⟨s0, s1 + 1, 0, 0, 1 - set, winner⟩, 1 - set) by rw [HR.out]; simp [show ¬ l1 + 1 < m.legs by have := of_decide_eq_true hA; omega, h3, h4, h7]]; exact HB.out, HZ.out, HM.out, HE.out⟩
                    case measure => simp [intOf]; omega
                  · go_wp2
                    have hb0 : Blk _ N #[.int .i64 (s0), .int .i64 (s1 + 1), .int .i64 (l0), .int .i64 (l1 + 1), .int .i64 (-1), .int .i64 (winner)] := (HB.out).set 4 (.int .i64 (-1))
                    have hb1 : Blk _ N #[.int .i64 (s0), .int .i64 (s1 + 1), .int .i64 (l0), .int .i64 (l1 + 1), .int .i64 (-1), .int .i64 (1)] := (hb0).set 5 (.int .i64 (1))
                    have hm9 := ((HM.out.other (a := ⟨N, 4, none⟩) (by show (_ : Nat) ≠ N; omega) (.int .i64 (-1))).other (a := ⟨N, 5, none⟩) (by show (_ : Nat) ≠ N; omega) (.int .i64 (1)))
                    have hz9 := ((HZ.out.other (a := ⟨N, 4, none⟩) (by show (_ : Nat) ≠ N; omega) (.int .i64 (-1))).other (a := ⟨N, 5, none⟩) (by show (_ : Nat) ≠ N; omega) (.int .i64 (1)))
                    have he9 := ((HE.out.setCell (p := ⟨N, 4, none⟩) (by show w.heap.size ≤ N; omega) (.int .i64 (-1))).setCell (p := ⟨N, 5, none⟩) (by show w.heap.size ≤ N; omega) (.int .i64 (1)))
                    replace HB := Lib.hid hb1
                    replace HM := Lib.hid hm9
                    replace HZ := Lib.hid hz9
                    replace HE := Lib.hid he9
                    clear hb0 hb1 hm9 hz9 he9
                    have hRe : R = (⟨s0, s1 + 1, l0, l1 + 1, -1, 1⟩, set) := by rw [HR.out]; simp [show ¬ l1 + 1 < m.legs by have := of_decide_eq_true hA; omega, h3, h4, h7]
                    have HRe := Lib.hid hRe
                    clear hRe
                    go_roundw
                    case rel => exact ⟨k + 1, R.1, 1 - set, by omega, rfl, by go_num, by rw [HS1.out]; exact congrArg matE (matW_over (by rw [HRe.out]; simp) _ _ _ _), Sc.inv_over HI1.out (by rw [HRe.out]; simp) ⟨by omega, by omega⟩, by rw [HRe.out]; exact HB.out, HZ.out, HM.out, HE.out⟩
                    case measure => simp [intOf]; omega
                · cases h5 : decide (l0 + m.clear ≤ l1 + 1)
                  · cases h6 : l1 + 1 == m.legs + m.extra
                    · go_wp2
                      try simp only [hA]
                      refine wp_region_later (by kernel_rfl) (by kernel_rfl) ?_
                      repeat (go_big_quiet_step (fail))
                      refine wpQuiet_nil ?_
                      intro wq hwq
                      obtain ⟨⟨wq, hxq⟩, rfl⟩ := hwq
                      replace HB := Lib.hid (HB.out.ext hxq)
                      replace HM := Lib.hid (HM.out.ext hxq)
                      replace HZ := Lib.hid (HZ.out.ext hxq)
                      replace HE := Lib.hid (HE.out.trans hxq)
                      clear hxq
                      clear v0 v1 v2 v3 v4 v5 vs g0 g1 g2 g3 g4 g5 c0 c1 c2 c3 c4 cs
                      obtain ⟨⟨v0, v1, v2, v3, v4, v5⟩, vs, g0, g1, g2, g3, g4, g5⟩ := HB.out.six
                      obtain ⟨c0, c1, c2, c3, c4, cs⟩ := mt_cells HM.out
                      go_wp2
                      go_roundw
                      case rel => exact ⟨k + 1, R.1, R.2, by omega, by rw [show R = (⟨s0, s1, l0, l1 + 1, 1 - first, winner⟩, set) by rw [HR.out]; simp [show ¬ l1 + 1 < m.legs by have := of_decide_eq_true hA; omega, h3, h4, h6, show ¬ m.clear ≤ l1 + 1 - l0 by have := of_decide_eq_false h5; omega]], by go_num, HS1.out, HI1.out, by rw [show R = (⟨s0, s1, l0, l1 + 1, 1 - first, winner⟩, set) by rw [HR.out]; simp [show ¬ l1 + 1 < m.legs by have := of_decide_eq_true hA; omega, h3, h4, h6, show ¬ m.clear ≤ l1 + 1 - l0 by have := of_decide_eq_false h5; omega]]; exact HB.out, HZ.out, HM.out, HE.out⟩
                      case measure => simp [intOf]; omega
                    · go_wp2
                      try simp only [hA]
                      refine wp_region_later (by kernel_rfl) (by kernel_rfl) ?_
                      repeat (go_big_quiet_step (fail))
                      refine wpQuiet_nil ?_
                      intro wq hwq
                      obtain ⟨⟨wq, hxq⟩, rfl⟩ := hwq
                      replace HB := Lib.hid (HB.out.ext hxq)
                      replace HM := Lib.hid (HM.out.ext hxq)
                      replace HZ := Lib.hid (HZ.out.ext hxq)
                      replace HE := Lib.hid (HE.out.trans hxq)
                      clear hxq
                      clear v0 v1 v2 v3 v4 v5 vs g0 g1 g2 g3 g4 g5 c0 c1 c2 c3 c4 cs
                      obtain ⟨⟨v0, v1, v2, v3, v4, v5⟩, vs, g0, g1, g2, g3, g4, g5⟩ := HB.out.six
                      obtain ⟨c0, c1, c2, c3, c4, cs⟩ := mt_cells HM.out
                      go_wp2
                      have hb0 : Blk _ N #[.int .i64 (s0), .int .i64 (s1 + 1), .int .i64 (l0), .int .i64 (l1 + 1), .int .i64 (1 - first), .int .i64 (winner)] := (HB.out).set 1 (.int .i64 (s1 + 1))
                      have hm9 := (HM.out.other (a := ⟨N, 1, none⟩) (by show (_ : Nat) ≠ N; omega) (.int .i64 (s1 + 1)))
                      have hz9 := (HZ.out.other (a := ⟨N, 1, none⟩) (by show (_ : Nat) ≠ N; omega) (.int .i64 (s1 + 1)))
                      have he9 := (HE.out.setCell (p := ⟨N, 1, none⟩) (by show w.heap.size ≤ N; omega) (.int .i64 (s1 + 1)))
                      replace HB := Lib.hid hb0
                      replace HM := Lib.hid hm9
                      replace HZ := Lib.hid hz9
                      replace HE := Lib.hid he9
                      clear hb0 hm9 hz9 he9
                      generalize World.setCell _ _ _ = w5 at *
                      clear v0 v1 v2 v3 v4 v5 vs g0 g1 g2 g3 g4 g5 c0 c1 c2 c3 c4 cs
                      obtain ⟨⟨v0, v1, v2, v3, v4, v5⟩, vs, g0, g1, g2, g3, g4, g5⟩ := HB.out.six
                      obtain ⟨c0, c1, c2, c3, c4, cs⟩ := mt_cells HM.out
                      try simp only [hA]
                      refine wp_region_later (by kernel_rfl) (by kernel_rfl) ?_
                      repeat (go_big_quiet_step (fail))
                      refine wpQuiet_nil ?_
                      intro wq hwq
                      obtain ⟨⟨wq, hxq⟩, rfl⟩ := hwq
                      replace HB := Lib.hid (HB.out.ext hxq)
                      replace HM := Lib.hid (HM.out.ext hxq)
                      replace HZ := Lib.hid (HZ.out.ext hxq)
                      replace HE := Lib.hid (HE.out.trans hxq)
                      clear hxq
                      clear v0 v1 v2 v3 v4 v5 vs g0 g1 g2 g3 g4 g5 c0 c1 c2 c3 c4 cs
                      obtain ⟨⟨v0, v1, v2, v3, v4, v5⟩, vs, g0, g1, g2, g3, g4, g5⟩ := HB.out.six
                      obtain ⟨c0, c1, c2, c3, c4, cs⟩ := mt_cells HM.out
                      cases h7 : s1 + 1 == m.sets
                      · go_wp2
                        have hb0 : Blk _ N #[.int .i64 (s0), .int .i64 (s1 + 1), .int .i64 (0), .int .i64 (l1 + 1), .int .i64 (1 - first), .int .i64 (winner)] := (HB.out).set 2 (.int .i64 (0))
                        have hb1 : Blk _ N #[.int .i64 (s0), .int .i64 (s1 + 1), .int .i64 (0), .int .i64 (0), .int .i64 (1 - first), .int .i64 (winner)] := (hb0).set 3 (.int .i64 (0))
                        have hb2 : Blk _ N #[.int .i64 (s0), .int .i64 (s1 + 1), .int .i64 (0), .int .i64 (0), .int .i64 (1 - set), .int .i64 (winner)] := (hb1).set 4 (.int .i64 (1 - set))
                        have hm9 := (((HM.out.other (a := ⟨N, 2, none⟩) (by show (_ : Nat) ≠ N; omega) (.int .i64 (0))).other (a := ⟨N, 3, none⟩) (by show (_ : Nat) ≠ N; omega) (.int .i64 (0))).other (a := ⟨N, 4, none⟩) (by show (_ : Nat) ≠ N; omega) (.int .i64 (1 - set)))
                        have hz9 := (((HZ.out.other (a := ⟨N, 2, none⟩) (by show (_ : Nat) ≠ N; omega) (.int .i64 (0))).other (a := ⟨N, 3, none⟩) (by show (_ : Nat) ≠ N; omega) (.int .i64 (0))).other (a := ⟨N, 4, none⟩) (by show (_ : Nat) ≠ N; omega) (.int .i64 (1 - set)))
                        have he9 := (((HE.out.setCell (p := ⟨N, 2, none⟩) (by show w.heap.size ≤ N; omega) (.int .i64 (0))).setCell (p := ⟨N, 3, none⟩) (by show w.heap.size ≤ N; omega) (.int .i64 (0))).setCell (p := ⟨N, 4, none⟩) (by show w.heap.size ≤ N; omega) (.int .i64 (1 - set)))
                        replace HB := Lib.hid hb2
                        replace HM := Lib.hid hm9
                        replace HZ := Lib.hid hz9
                        replace HE := Lib.hid he9
                        clear hb0 hb1 hb2 hm9 hz9 he9
                        go_roundw
                        case rel => exact ⟨k + 1, R.1, R.2, by omega, by rw [show R = (⟨s0, s1 + 1, 0, 0, 1 - set, winner⟩, 1 - set) by rw [HR.out]; simp [show ¬ l1 + 1 < m.legs by have := of_decide_eq_true hA; omega, h3, h4, h6, show ¬ m.clear ≤ l1 + 1 - l0 by have := of_decide_eq_false h5; omega, h7]], by go_num, HS1.out, HI1.out, by rw [show R = (⟨s0, s1 + 1, 0, 0, 1 - set, winner⟩, 1 - set) by rw [HR.out]; simp [show ¬ l1 + 1 < m.legs by have := of_decide_eq_true hA; omega, h3, h4, h6, show ¬ m.clear ≤ l1 + 1 - l0 by have := of_decide_eq_false h5; omega, h7]]; exact HB.out, HZ.out, HM.out, HE.out⟩
                        case measure => simp [intOf]; omega
                      · go_wp2
                        have hb0 : Blk _ N #[.int .i64 (s0), .int .i64 (s1 + 1), .int .i64 (l0), .int .i64 (l1 + 1), .int .i64 (-1), .int .i64 (winner)] := (HB.out).set 4 (.int .i64 (-1))
                        have hb1 : Blk _ N #[.int .i64 (s0), .int .i64 (s1 + 1), .int .i64 (l0), .int .i64 (l1 + 1), .int .i64 (-1), .int .i64 (1)] := (hb0).set 5 (.int .i64 (1))
                        have hm9 := ((HM.out.other (a := ⟨N, 4, none⟩) (by show (_ : Nat) ≠ N; omega) (.int .i64 (-1))).other (a := ⟨N, 5, none⟩) (by show (_ : Nat) ≠ N; omega) (.int .i64 (1)))
                        have hz9 := ((HZ.out.other (a := ⟨N, 4, none⟩) (by show (_ : Nat) ≠ N; omega) (.int .i64 (-1))).other (a := ⟨N, 5, none⟩) (by show (_ : Nat) ≠ N; omega) (.int .i64 (1)))
                        have he9 := ((HE.out.setCell (p := ⟨N, 4, none⟩) (by show w.heap.size ≤ N; omega) (.int .i64 (-1))).setCell (p := ⟨N, 5, none⟩) (by show w.heap.size ≤ N; omega) (.int .i64 (1)))
                        replace HB := Lib.hid hb1
                        replace HM := Lib.hid hm9
                        replace HZ := Lib.hid hz9
                        replace HE := Lib.hid he9
                        clear hb0 hb1 hm9 hz9 he9
                        have hRe : R = (⟨s0, s1 + 1, l0, l1 + 1, -1, 1⟩, set) := by rw [HR.out]; simp [show ¬ l1 + 1 < m.legs by have := of_decide_eq_true hA; omega, h3, h4, h6, show ¬ m.clear ≤ l1 + 1 - l0 by have := of_decide_eq_false h5; omega, h7]
                        have HRe := Lib.hid hRe
                        clear hRe
                        go_roundw
                        case rel => exact ⟨k + 1, R.1, 1 - set, by omega, rfl, by go_num, by rw [HS1.out]; exact congrArg matE (matW_over (by rw [HRe.out]; simp) _ _ _ _), Sc.inv_over HI1.out (by rw [HRe.out]; simp) ⟨by omega, by omega⟩, by rw [HRe.out]; exact HB.out, HZ.out, HM.out, HE.out⟩
                        case measure => simp [intOf]; omega
                  · go_wp2
                    try simp only [hA]
                    refine wp_region_later (by kernel_rfl) (by kernel_rfl) ?_
                    repeat (go_big_quiet_step (fail))
                    refine wpQuiet_nil ?_
                    intro wq hwq
                    obtain ⟨⟨wq, hxq⟩, rfl⟩ := hwq
                    replace HB := Lib.hid (HB.out.ext hxq)
                    replace HM := Lib.hid (HM.out.ext hxq)
                    replace HZ := Lib.hid (HZ.out.ext hxq)
                    replace HE := Lib.hid (HE.out.trans hxq)
                    clear hxq
                    clear v0 v1 v2 v3 v4 v5 vs g0 g1 g2 g3 g4 g5 c0 c1 c2 c3 c4 cs
                    obtain ⟨⟨v0, v1, v2, v3, v4, v5⟩, vs, g0, g1, g2, g3, g4, g5⟩ := HB.out.six
                    obtain ⟨c0, c1, c2, c3, c4, cs⟩ := mt_cells HM.out
                    go_wp2
                    have hb0 : Blk _ N #[.int .i64 (s0), .int .i64 (s1 + 1), .int .i64 (l0), .int .i64 (l1 + 1), .int .i64 (1 - first), .int .i64 (winner)] := (HB.out).set 1 (.int .i64 (s1 + 1))
                    have hm9 := (HM.out.other (a := ⟨N, 1, none⟩) (by show (_ : Nat) ≠ N; omega) (.int .i64 (s1 + 1)))
                    have hz9 := (HZ.out.other (a := ⟨N, 1, none⟩) (by show (_ : Nat) ≠ N; omega) (.int .i64 (s1 + 1)))
                    have he9 := (HE.out.setCell (p := ⟨N, 1, none⟩) (by show w.heap.size ≤ N; omega) (.int .i64 (s1 + 1)))
                    replace HB := Lib.hid hb0
                    replace HM := Lib.hid hm9
                    replace HZ := Lib.hid hz9
                    replace HE := Lib.hid he9
                    clear hb0 hm9 hz9 he9
                    generalize World.setCell _ _ _ = w5 at *
                    clear v0 v1 v2 v3 v4 v5 vs g0 g1 g2 g3 g4 g5 c0 c1 c2 c3 c4 cs
                    obtain ⟨⟨v0, v1, v2, v3, v4, v5⟩, vs, g0, g1, g2, g3, g4, g5⟩ := HB.out.six
                    obtain ⟨c0, c1, c2, c3, c4, cs⟩ := mt_cells HM.out
                    try simp only [hA]
                    refine wp_region_later (by kernel_rfl) (by kernel_rfl) ?_
                    repeat (go_big_quiet_step (fail))
                    refine wpQuiet_nil ?_
                    intro wq hwq
                    obtain ⟨⟨wq, hxq⟩, rfl⟩ := hwq
                    replace HB := Lib.hid (HB.out.ext hxq)
                    replace HM := Lib.hid (HM.out.ext hxq)
                    replace HZ := Lib.hid (HZ.out.ext hxq)
                    replace HE := Lib.hid (HE.out.trans hxq)
                    clear hxq
                    clear v0 v1 v2 v3 v4 v5 vs g0 g1 g2 g3 g4 g5 c0 c1 c2 c3 c4 cs
                    obtain ⟨⟨v0, v1, v2, v3, v4, v5⟩, vs, g0, g1, g2, g3, g4, g5⟩ := HB.out.six
                    obtain ⟨c0, c1, c2, c3, c4, cs⟩ := mt_cells HM.out
                    cases h7 : s1 + 1 == m.sets
                    · go_wp2
                      have hb0 : Blk _ N #[.int .i64 (s0), .int .i64 (s1 + 1), .int .i64 (0), .int .i64 (l1 + 1), .int .i64 (1 - first), .int .i64 (winner)] := (HB.out).set 2 (.int .i64 (0))
                      have hb1 : Blk _ N #[.int .i64 (s0), .int .i64 (s1 + 1), .int .i64 (0), .int .i64 (0), .int .i64 (1 - first), .int .i64 (winner)] := (hb0).set 3 (.int .i64 (0))
                      have hb2 : Blk _ N #[.int .i64 (s0), .int .i64 (s1 + 1), .int .i64 (0), .int .i64 (0), .int .i64 (1 - set), .int .i64 (winner)] := (hb1).set 4 (.int .i64 (1 - set))
                      have hm9 := (((HM.out.other (a := ⟨N, 2, none⟩) (by show (_ : Nat) ≠ N; omega) (.int .i64 (0))).other (a := ⟨N, 3, none⟩) (by show (_ : Nat) ≠ N; omega) (.int .i64 (0))).other (a := ⟨N, 4, none⟩) (by show (_ : Nat) ≠ N; omega) (.int .i64 (1 - set)))
                      have hz9 := (((HZ.out.other (a := ⟨N, 2, none⟩) (by show (_ : Nat) ≠ N; omega) (.int .i64 (0))).other (a := ⟨N, 3, none⟩) (by show (_ : Nat) ≠ N; omega) (.int .i64 (0))).other (a := ⟨N, 4, none⟩) (by show (_ : Nat) ≠ N; omega) (.int .i64 (1 - set)))
                      have he9 := (((HE.out.setCell (p := ⟨N, 2, none⟩) (by show w.heap.size ≤ N; omega) (.int .i64 (0))).setCell (p := ⟨N, 3, none⟩) (by show w.heap.size ≤ N; omega) (.int .i64 (0))).setCell (p := ⟨N, 4, none⟩) (by show w.heap.size ≤ N; omega) (.int .i64 (1 - set)))
                      replace HB := Lib.hid hb2
                      replace HM := Lib.hid hm9
                      replace HZ := Lib.hid hz9
                      replace HE := Lib.hid he9
                      clear hb0 hb1 hb2 hm9 hz9 he9
                      go_roundw
                      case rel => exact ⟨k + 1, R.1, R.2, by omega, by rw [show R = (⟨s0, s1 + 1, 0, 0, 1 - set, winner⟩, 1 - set) by rw [HR.out]; simp [show ¬ l1 + 1 < m.legs by have := of_decide_eq_true hA; omega, h3, h4, show m.clear ≤ l1 + 1 - l0 by have := of_decide_eq_true h5; omega, h7]], by go_num, HS1.out, HI1.out, by rw [show R = (⟨s0, s1 + 1, 0, 0, 1 - set, winner⟩, 1 - set) by rw [HR.out]; simp [show ¬ l1 + 1 < m.legs by have := of_decide_eq_true hA; omega, h3, h4, show m.clear ≤ l1 + 1 - l0 by have := of_decide_eq_true h5; omega, h7]]; exact HB.out, HZ.out, HM.out, HE.out⟩
                      case measure => simp [intOf]; omega
                    · go_wp2
                      have hb0 : Blk _ N #[.int .i64 (s0), .int .i64 (s1 + 1), .int .i64 (l0), .int .i64 (l1 + 1), .int .i64 (-1), .int .i64 (winner)] := (HB.out).set 4 (.int .i64 (-1))
                      have hb1 : Blk _ N #[.int .i64 (s0), .int .i64 (s1 + 1), .int .i64 (l0), .int .i64 (l1 + 1), .int .i64 (-1), .int .i64 (1)] := (hb0).set 5 (.int .i64 (1))
                      have hm9 := ((HM.out.other (a := ⟨N, 4, none⟩) (by show (_ : Nat) ≠ N; omega) (.int .i64 (-1))).other (a := ⟨N, 5, none⟩) (by show (_ : Nat) ≠ N; omega) (.int .i64 (1)))
                      have hz9 := ((HZ.out.other (a := ⟨N, 4, none⟩) (by show (_ : Nat) ≠ N; omega) (.int .i64 (-1))).other (a := ⟨N, 5, none⟩) (by show (_ : Nat) ≠ N; omega) (.int .i64 (1)))
                      have he9 := ((HE.out.setCell (p := ⟨N, 4, none⟩) (by show w.heap.size ≤ N; omega) (.int .i64 (-1))).setCell (p := ⟨N, 5, none⟩) (by show w.heap.size ≤ N; omega) (.int .i64 (1)))
                      replace HB := Lib.hid hb1
                      replace HM := Lib.hid hm9
                      replace HZ := Lib.hid hz9
                      replace HE := Lib.hid he9
                      clear hb0 hb1 hm9 hz9 he9
                      have hRe : R = (⟨s0, s1 + 1, l0, l1 + 1, -1, 1⟩, set) := by rw [HR.out]; simp [show ¬ l1 + 1 < m.legs by have := of_decide_eq_true hA; omega, h3, h4, show m.clear ≤ l1 + 1 - l0 by have := of_decide_eq_true h5; omega, h7]
                      have HRe := Lib.hid hRe
                      clear hRe
                      go_roundw
                      case rel => exact ⟨k + 1, R.1, 1 - set, by omega, rfl, by go_num, by rw [HS1.out]; exact congrArg matE (matW_over (by rw [HRe.out]; simp) _ _ _ _), Sc.inv_over HI1.out (by rw [HRe.out]; simp) ⟨by omega, by omega⟩, by rw [HRe.out]; exact HB.out, HZ.out, HM.out, HE.out⟩
                      case measure => simp [intOf]; omega
        · have hp : l[k] = 0 := by simpa using hp0
          rw [hp] at hS1 hc0
          rw [if_neg (by decide)] at hS1
          replace hI1 := hI1 0 (.inl rfl)
          clear z0 z1 z2 z3 z4 z5 zs f0 f1 f2 f3 f4 f5 v0 v1 v2 v3 v4 v5 vs g0 g1 g2 g3 g4 g5 hx hp0
          have hR : m.add ⟨s0, s1, l0, l1, first, winner⟩ set 0 = _ := add_def0 m s0 s1 l0 l1 first winner set
          obtain ⟨R, hRR⟩ : ∃ R, m.add ⟨s0, s1, l0, l1, first, winner⟩ set 0 = R := ⟨_, rfl⟩
          rw [hRR] at hS1 hI1 hR
          have HR := Lib.hid hR
          have HS1 := Lib.hid hS1
          have HI1 := Lib.hid hI1
          clear hR hRR hS1 hI1
          obtain ⟨⟨v0, v1, v2, v3, v4, v5⟩, vs, g0, g1, g2, g3, g4, g5⟩ := HB.out.six
          obtain ⟨c0, c1, c2, c3, c4, cs⟩ := mt_cells HM.out
          go_wp2
          have hb0 : Blk _ N #[.int .i64 (s0), .int .i64 (s1), .int .i64 (l0 + 1), .int .i64 (l1), .int .i64 (first), .int .i64 (winner)] := (HB.out).set 2 (.int .i64 (l0 + 1))
          have hb1 : Blk _ N #[.int .i64 (s0), .int .i64 (s1), .int .i64 (l0 + 1), .int .i64 (l1), .int .i64 (1 - first), .int .i64 (winner)] := (hb0).set 4 (.int .i64 (1 - first))
          have hm9 := ((HM.out.other (a := ⟨N, 2, none⟩) (by show (_ : Nat) ≠ N; omega) (.int .i64 (l0 + 1))).other (a := ⟨N, 4, none⟩) (by show (_ : Nat) ≠ N; omega) (.int .i64 (1 - first)))
          have hz9 := ((HZ.out.other (a := ⟨N, 2, none⟩) (by show (_ : Nat) ≠ N; omega) (.int .i64 (l0 + 1))).other (a := ⟨N, 4, none⟩) (by show (_ : Nat) ≠ N; omega) (.int .i64 (1 - first)))
          have he9 := ((HE.out.setCell (p := ⟨N, 2, none⟩) (by show w.heap.size ≤ N; omega) (.int .i64 (l0 + 1))).setCell (p := ⟨N, 4, none⟩) (by show w.heap.size ≤ N; omega) (.int .i64 (1 - first)))
          replace HB := Lib.hid hb1
          replace HM := Lib.hid hm9
          replace HZ := Lib.hid hz9
          replace HE := Lib.hid he9
          clear hb0 hb1 hm9 hz9 he9
          generalize World.setCell _ _ _ = w3 at *
          clear v0 v1 v2 v3 v4 v5 vs g0 g1 g2 g3 g4 g5 c0 c1 c2 c3 c4 cs
          obtain ⟨⟨v0, v1, v2, v3, v4, v5⟩, vs, g0, g1, g2, g3, g4, g5⟩ := HB.out.six
          obtain ⟨c0, c1, c2, c3, c4, cs⟩ := mt_cells HM.out
          try simp only [hA]
          refine wp_region_later (by kernel_rfl) (by kernel_rfl) ?_
          repeat (go_big_quiet_step (fail))
          refine wpQuiet_nil ?_
          intro wq hwq
          obtain ⟨⟨wq, hxq⟩, rfl⟩ := hwq
          replace HB := Lib.hid (HB.out.ext hxq)
          replace HM := Lib.hid (HM.out.ext hxq)
          replace HZ := Lib.hid (HZ.out.ext hxq)
          replace HE := Lib.hid (HE.out.trans hxq)
          clear hxq
          clear v0 v1 v2 v3 v4 v5 vs g0 g1 g2 g3 g4 g5 c0 c1 c2 c3 c4 cs
          obtain ⟨⟨v0, v1, v2, v3, v4, v5⟩, vs, g0, g1, g2, g3, g4, g5⟩ := HB.out.six
          obtain ⟨c0, c1, c2, c3, c4, cs⟩ := mt_cells HM.out
          cases hA : decide (m.legs ≤ l0 + 1)
          · cases h3 : s0 == m.sets - 1
            · go_wp2
              go_roundw
              case rel => exact ⟨k + 1, R.1, R.2, by omega, by rw [show R = (⟨s0, s1, l0 + 1, l1, 1 - first, winner⟩, set) by rw [HR.out]; simp [show l0 + 1 < m.legs by have := of_decide_eq_false hA; omega]], by go_num, HS1.out, HI1.out, by rw [show R = (⟨s0, s1, l0 + 1, l1, 1 - first, winner⟩, set) by rw [HR.out]; simp [show l0 + 1 < m.legs by have := of_decide_eq_false hA; omega]]; exact HB.out, HZ.out, HM.out, HE.out⟩
              case measure => simp [intOf]; omega
            · cases h4 : s1 == m.sets - 1
              · go_wp2
                go_roundw
                case rel => exact ⟨k + 1, R.1, R.2, by omega, by rw [show R = (⟨s0, s1, l0 + 1, l1, 1 - first, winner⟩, set) by rw [HR.out]; simp [show l0 + 1 < m.legs by have := of_decide_eq_false hA; omega]], by go_num, HS1.out, HI1.out, by rw [show R = (⟨s0, s1, l0 + 1, l1, 1 - first, winner⟩, set) by rw [HR.out]; simp [show l0 + 1 < m.legs by have := of_decide_eq_false hA; omega]]; exact HB.out, HZ.out, HM.out, HE.out⟩
                case measure => simp [intOf]; omega
              · go_wp2
                try simp only [hA]
                refine wp_region_later (by kernel_rfl) (by kernel_rfl) ?_
                repeat (go_big_quiet_step (fail))
                refine wpQuiet_nil ?_
                intro wq hwq
                obtain ⟨⟨wq, hxq⟩, rfl⟩ := hwq
                replace HB := Lib.hid (HB.out.ext hxq)
                replace HM := Lib.hid (HM.out.ext hxq)
                replace HZ := Lib.hid (HZ.out.ext hxq)
                replace HE := Lib.hid (HE.out.trans hxq)
                clear hxq
                clear v0 v1 v2 v3 v4 v5 vs g0 g1 g2 g3 g4 g5 c0 c1 c2 c3 c4 cs
                obtain ⟨⟨v0, v1, v2, v3, v4, v5⟩, vs, g0, g1, g2, g3, g4, g5⟩ := HB.out.six
                obtain ⟨c0, c1, c2, c3, c4, cs⟩ := mt_cells HM.out
                go_wp2
                go_roundw
                case rel => exact ⟨k + 1, R.1, R.2, by omega, by rw [show R = (⟨s0, s1, l0 + 1, l1, 1 - first, winner⟩, set) by rw [HR.out]; simp [show l0 + 1 < m.legs by have := of_decide_eq_false hA; omega]], by go_num, HS1.out, HI1.out, by rw [show R = (⟨s0, s1, l0 + 1, l1, 1 - first, winner⟩, set) by rw [HR.out]; simp [show l0 + 1 < m.legs by have := of_decide_eq_false hA; omega]]; exact HB.out, HZ.out, HM.out, HE.out⟩
                case measure => simp [intOf]; omega
          · cases h3 : s0 == m.sets - 1
            · go_wp2
              have hb0 : Blk _ N #[.int .i64 (s0 + 1), .int .i64 (s1), .int .i64 (l0 + 1), .int .i64 (l1), .int .i64 (1 - first), .int .i64 (winner)] := (HB.out).set 0 (.int .i64 (s0 + 1))
              have hm9 := (HM.out.other (a := ⟨N, 0, none⟩) (by show (_ : Nat) ≠ N; omega) (.int .i64 (s0 + 1)))
              have hz9 := (HZ.out.other (a := ⟨N, 0, none⟩) (by show (_ : Nat) ≠ N; omega) (.int .i64 (s0 + 1)))
              have he9 := (HE.out.setCell (p := ⟨N, 0, none⟩) (by show w.heap.size ≤ N; omega) (.int .i64 (s0 + 1)))
              replace HB := Lib.hid hb0
              replace HM := Lib.hid hm9
              replace HZ := Lib.hid hz9
              replace HE := Lib.hid he9
              clear hb0 hm9 hz9 he9
              generalize World.setCell _ _ _ = w5 at *
              clear v0 v1 v2 v3 v4 v5 vs g0 g1 g2 g3 g4 g5 c0 c1 c2 c3 c4 cs
              obtain ⟨⟨v0, v1, v2, v3, v4, v5⟩, vs, g0, g1, g2, g3, g4, g5⟩ := HB.out.six
              obtain ⟨c0, c1, c2, c3, c4, cs⟩ := mt_cells HM.out
              try simp only [hA]
              refine wp_region_later (by kernel_rfl) (by kernel_rfl) ?_
              repeat (go_big_quiet_step (fail))
              refine wpQuiet_nil ?_
              intro wq hwq
              obtain ⟨⟨wq, hxq⟩, rfl⟩ := hwq
              replace HB := Lib.hid (HB.out.ext hxq)
              replace HM := Lib.hid (HM.out.ext hxq)
              replace HZ := Lib.hid (HZ.out.ext hxq)
              replace HE := Lib.hid (HE.out.trans hxq)
              clear hxq
              clear v0 v1 v2 v3 v4 v5 vs g0 g1 g2 g3 g4 g5 c0 c1 c2 c3 c4 cs
              obtain ⟨⟨v0, v1, v2, v3, v4, v5⟩, vs, g0, g1, g2, g3, g4, g5⟩ := HB.out.six
              obtain ⟨c0, c1, c2, c3, c4, cs⟩ := mt_cells HM.out
              cases h7 : s0 + 1 == m.sets
              · go_wp2
                have hb0 : Blk _ N #[.int .i64 (s0 + 1), .int .i64 (s1), .int .i64 (0), .int .i64 (l1), .int .i64 (1 - first), .int .i64 (winner)] := (HB.out).set 2 (.int .i64 (0))
                have hb1 : Blk _ N #[.int .i64 (s0 + 1), .int .i64 (s1), .int .i64 (0), .int .i64 (0), .int .i64 (1 - first), .int .i64 (winner)] := (hb0).set 3 (.int .i64 (0))
                have hb2 : Blk _ N #[.int .i64 (s0 + 1), .int .i64 (s1), .int .i64 (0), .int .i64 (0), .int .i64 (1 - set), .int .i64 (winner)] := (hb1).set 4 (.int .i64 (1 - set))
                have hm9 := (((HM.out.other (a := ⟨N, 2, none⟩) (by show (_ : Nat) ≠ N; omega) (.int .i64 (0))).other (a := ⟨N, 3, none⟩) (by show (_ : Nat) ≠ N; omega) (.int .i64 (0))).other (a := ⟨N, 4, none⟩) (by show (_ : Nat) ≠ N; omega) (.int .i64 (1 - set)))
                have hz9 := (((HZ.out.other (a := ⟨N, 2, none⟩) (by show (_ : Nat) ≠ N; omega) (.int .i64 (0))).other (a := ⟨N, 3, none⟩) (by show (_ : Nat) ≠ N; omega) (.int .i64 (0))).other (a := ⟨N, 4, none⟩) (by show (_ : Nat) ≠ N; omega) (.int .i64 (1 - set)))
                have he9 := (((HE.out.setCell (p := ⟨N, 2, none⟩) (by show w.heap.size ≤ N; omega) (.int .i64 (0))).setCell (p := ⟨N, 3, none⟩) (by show w.heap.size ≤ N; omega) (.int .i64 (0))).setCell (p := ⟨N, 4, none⟩) (by show w.heap.size ≤ N; omega) (.int .i64 (1 - set)))
                replace HB := Lib.hid hb2
                replace HM := Lib.hid hm9
                replace HZ := Lib.hid hz9
                replace HE := Lib.hid he9
                clear hb0 hb1 hb2 hm9 hz9 he9
                go_roundw
                case rel => exact ⟨k + 1, R.1, R.2, by omega, by rw [show R = (⟨s0 + 1, s1, 0, 0, 1 - set, winner⟩, 1 - set) by rw [HR.out]; simp [show ¬ l0 + 1 < m.legs by have := of_decide_eq_true hA; omega, h3, h7]], by go_num, HS1.out, HI1.out, by rw [show R = (⟨s0 + 1, s1, 0, 0, 1 - set, winner⟩, 1 - set) by rw [HR.out]; simp [show ¬ l0 + 1 < m.legs by have := of_decide_eq_true hA; omega, h3, h7]]; exact HB.out, HZ.out, HM.out, HE.out⟩
                case measure => simp [intOf]; omega
              · go_wp2
                have hb0 : Blk _ N #[.int .i64 (s0 + 1), .int .i64 (s1), .int .i64 (l0 + 1), .int .i64 (l1), .int .i64 (-1), .int .i64 (winner)] := (HB.out).set 4 (.int .i64 (-1))
                have hb1 : Blk _ N #[.int .i64 (s0 + 1), .int .i64 (s1), .int .i64 (l0 + 1), .int .i64 (l1), .int .i64 (-1), .int .i64 (0)] := (hb0).set 5 (.int .i64 (0))
                have hm9 := ((HM.out.other (a := ⟨N, 4, none⟩) (by show (_ : Nat) ≠ N; omega) (.int .i64 (-1))).other (a := ⟨N, 5, none⟩) (by show (_ : Nat) ≠ N; omega) (.int .i64 (0)))
                have hz9 := ((HZ.out.other (a := ⟨N, 4, none⟩) (by show (_ : Nat) ≠ N; omega) (.int .i64 (-1))).other (a := ⟨N, 5, none⟩) (by show (_ : Nat) ≠ N; omega) (.int .i64 (0)))
                have he9 := ((HE.out.setCell (p := ⟨N, 4, none⟩) (by show w.heap.size ≤ N; omega) (.int .i64 (-1))).setCell (p := ⟨N, 5, none⟩) (by show w.heap.size ≤ N; omega) (.int .i64 (0)))
                replace HB := Lib.hid hb1
                replace HM := Lib.hid hm9
                replace HZ := Lib.hid hz9
                replace HE := Lib.hid he9
                clear hb0 hb1 hm9 hz9 he9
                have hRe : R = (⟨s0 + 1, s1, l0 + 1, l1, -1, 0⟩, set) := by rw [HR.out]; simp [show ¬ l0 + 1 < m.legs by have := of_decide_eq_true hA; omega, h3, h7]
                have HRe := Lib.hid hRe
                clear hRe
                go_roundw
                case rel => exact ⟨k + 1, R.1, 1 - set, by omega, rfl, by go_num, by rw [HS1.out]; exact congrArg matE (matW_over (by rw [HRe.out]; simp) _ _ _ _), Sc.inv_over HI1.out (by rw [HRe.out]; simp) ⟨by omega, by omega⟩, by rw [HRe.out]; exact HB.out, HZ.out, HM.out, HE.out⟩
                case measure => simp [intOf]; omega
            · cases h4 : s1 == m.sets - 1
              · go_wp2
                have hb0 : Blk _ N #[.int .i64 (s0 + 1), .int .i64 (s1), .int .i64 (l0 + 1), .int .i64 (l1), .int .i64 (1 - first), .int .i64 (winner)] := (HB.out).set 0 (.int .i64 (s0 + 1))
                have hm9 := (HM.out.other (a := ⟨N, 0, none⟩) (by show (_ : Nat) ≠ N; omega) (.int .i64 (s0 + 1)))
                have hz9 := (HZ.out.other (a := ⟨N, 0, none⟩) (by show (_ : Nat) ≠ N; omega) (.int .i64 (s0 + 1)))
                have he9 := (HE.out.setCell (p := ⟨N, 0, none⟩) (by show w.heap.size ≤ N; omega) (.int .i64 (s0 + 1)))
                replace HB := Lib.hid hb0
                replace HM := Lib.hid hm9
                replace HZ := Lib.hid hz9
                replace HE := Lib.hid he9
                clear hb0 hm9 hz9 he9
                generalize World.setCell _ _ _ = w5 at *
                clear v0 v1 v2 v3 v4 v5 vs g0 g1 g2 g3 g4 g5 c0 c1 c2 c3 c4 cs
                obtain ⟨⟨v0, v1, v2, v3, v4, v5⟩, vs, g0, g1, g2, g3, g4, g5⟩ := HB.out.six
                obtain ⟨c0, c1, c2, c3, c4, cs⟩ := mt_cells HM.out
                try simp only [hA]
                refine wp_region_later (by kernel_rfl) (by kernel_rfl) ?_
                repeat (go_big_quiet_step (fail))
                refine wpQuiet_nil ?_
                intro wq hwq
                obtain ⟨⟨wq, hxq⟩, rfl⟩ := hwq
                replace HB := Lib.hid (HB.out.ext hxq)
                replace HM := Lib.hid (HM.out.ext hxq)
                replace HZ := Lib.hid (HZ.out.ext hxq)
                replace HE := Lib.hid (HE.out.trans hxq)
                clear hxq
                clear v0 v1 v2 v3 v4 v5 vs g0 g1 g2 g3 g4 g5 c0 c1 c2 c3 c4 cs
                obtain ⟨⟨v0, v1, v2, v3, v4, v5⟩, vs, g0, g1, g2, g3, g4, g5⟩ := HB.out.six
                obtain ⟨c0, c1, c2, c3, c4, cs⟩ := mt_cells HM.out
                cases h7 : s0 + 1 == m.sets
                · go_wp2
                  have hb0 : Blk _ N #[.int .i64 (s0 + 1), .int .i64 (s1), .int .i64 (0), .int .i64 (l1), .int .i64 (1 - first), .int .i64 (winner)] := (HB.out).set 2 (.int .i64 (0))
                  have hb1 : Blk _ N #[.int .i64 (s0 + 1), .int .i64 (s1), .int .i64 (0), .int .i64 (0), .int .i64 (1 - first), .int .i64 (winner)] := (hb0).set 3 (.int .i64 (0))
                  have hb2 : Blk _ N #[.int .i64 (s0 + 1), .int .i64 (s1), .int .i64 (0), .int .i64 (0), .int .i64 (1 - set), .int .i64 (winner)] := (hb1).set 4 (.int .i64 (1 - set))
                  have hm9 := (((HM.out.other (a := ⟨N, 2, none⟩) (by show (_ : Nat) ≠ N; omega) (.int .i64 (0))).other (a := ⟨N, 3, none⟩) (by show (_ : Nat) ≠ N; omega) (.int .i64 (0))).other (a := ⟨N, 4, none⟩) (by show (_ : Nat) ≠ N; omega) (.int .i64 (1 - set)))
                  have hz9 := (((HZ.out.other (a := ⟨N, 2, none⟩) (by show (_ : Nat) ≠ N; omega) (.int .i64 (0))).other (a := ⟨N, 3, none⟩) (by show (_ : Nat) ≠ N; omega) (.int .i64 (0))).other (a := ⟨N, 4, none⟩) (by show (_ : Nat) ≠ N; omega) (.int .i64 (1 - set)))
                  have he9 := (((HE.out.setCell (p := ⟨N, 2, none⟩) (by show w.heap.size ≤ N; omega) (.int .i64 (0))).setCell (p := ⟨N, 3, none⟩) (by show w.heap.size ≤ N; omega) (.int .i64 (0))).setCell (p := ⟨N, 4, none⟩) (by show w.heap.size ≤ N; omega) (.int .i64 (1 - set)))
                  replace HB := Lib.hid hb2
                  replace HM := Lib.hid hm9
                  replace HZ := Lib.hid hz9
                  replace HE := Lib.hid he9
                  clear hb0 hb1 hb2 hm9 hz9 he9
                  go_roundw
                  case rel => exact ⟨k + 1, R.1, R.2, by omega, by rw [show R = (⟨s0 + 1, s1, 0, 0, 1 - set, winner⟩, 1 - set) by rw [HR.out]; simp [show ¬ l0 + 1 < m.legs by have := of_decide_eq_true hA; omega, h3, h4, h7]], by go_num, HS1.out, HI1.out, by rw [show R = (⟨s0 + 1, s1, 0, 0, 1 - set, winner⟩, 1 - set) by rw [HR.out]; simp [show ¬ l0 + 1 < m.legs by have := of_decide_eq_true hA; omega, h3, h4, h7]]; exact HB.out, HZ.out, HM.out, HE.out⟩
                  case measure => simp [intOf]; omega
                · go_wp2
                  have hb0 : Blk _ N #[.int .i64 (s0 + 1), .int .i64 (s1), .int .i64 (l0 + 1), .int .i64 (l1), .int .i64 (-1), .int .i64 (winner)] := (HB.out).set 4 (.int .i64 (-1))
                  have hb1 : Blk _ N #[.int .i64 (s0 + 1), .int .i64 (s1), .int .i64 (l0 + 1), .int .i64 (l1), .int .i64 (-1), .int .i64 (0)] := (hb0).set 5 (.int .i64 (0))
                  have hm9 := ((HM.out.other (a := ⟨N, 4, none⟩) (by show (_ : Nat) ≠ N; omega) (.int .i64 (-1))).other (a := ⟨N, 5, none⟩) (by show (_ : Nat) ≠ N; omega) (.int .i64 (0)))
                  have hz9 := ((HZ.out.other (a := ⟨N, 4, none⟩) (by show (_ : Nat) ≠ N; omega) (.int .i64 (-1))).other (a := ⟨N, 5, none⟩) (by show (_ : Nat) ≠ N; omega) (.int .i64 (0)))
                  have he9 := ((HE.out.setCell (p := ⟨N, 4, none⟩) (by show w.heap.size ≤ N; omega) (.int .i64 (-1))).setCell (p := ⟨N, 5, none⟩) (by show w.heap.size ≤ N; omega) (.int .i64 (0)))
                  replace HB := Lib.hid hb1
                  replace HM := Lib.hid hm9
                  replace HZ := Lib.hid hz9
                  replace HE := Lib.hid he9
                  clear hb0 hb1 hm9 hz9 he9
                  have hRe : R = (⟨s0 + 1, s1, l0 + 1, l1, -1, 0⟩, set) := by rw [HR.out]; simp [show ¬ l0 + 1 < m.legs by have := of_decide_eq_true hA; omega, h3, h4, h7]
                  have HRe := Lib.hid hRe
                  clear hRe
                  go_roundw
                  case rel => exact ⟨k + 1, R.1, 1 - set, by omega, rfl, by go_num, by rw [HS1.out]; exact congrArg matE (matW_over (by rw [HRe.out]; simp) _ _ _ _), Sc.inv_over HI1.out (by rw [HRe.out]; simp) ⟨by omega, by omega⟩, by rw [HRe.out]; exact HB.out, HZ.out, HM.out, HE.out⟩
                  case measure => simp [intOf]; omega
              · cases h5 : decide (l1 + m.clear ≤ l0 + 1)
                · cases h6 : l0 + 1 == m.legs + m.extra
                  · go_wp2
                    try simp only [hA]
                    refine wp_region_later (by kernel_rfl) (by kernel_rfl) ?_
                    repeat (go_big_quiet_step (fail))
                    refine wpQuiet_nil ?_
                    intro wq hwq
                    obtain ⟨⟨wq, hxq⟩, rfl⟩ := hwq
                    replace HB := Lib.hid (HB.out.ext hxq)
                    replace HM := Lib.hid (HM.out.ext hxq)
                    replace HZ := Lib.hid (HZ.out.ext hxq)
                    replace HE := Lib.hid (HE.out.trans hxq)
                    clear hxq
                    clear v0 v1 v2 v3 v4 v5 vs g0 g1 g2 g3 g4 g5 c0 c1 c2 c3 c4 cs
                    obtain ⟨⟨v0, v1, v2, v3, v4, v5⟩, vs, g0, g1, g2, g3, g4, g5⟩ := HB.out.six
                    obtain ⟨c0, c1, c2, c3, c4, cs⟩ := mt_cells HM.out
                    go_wp2
                    go_roundw
                    case rel => exact ⟨k + 1, R.1, R.2, by omega, by rw [show R = (⟨s0, s1, l0 + 1, l1, 1 - first, winner⟩, set) by rw [HR.out]; simp [show ¬ l0 + 1 < m.legs by have := of_decide_eq_true hA; omega, h3, h4, h6, show ¬ m.clear ≤ l0 + 1 - l1 by have := of_decide_eq_false h5; omega]], by go_num, HS1.out, HI1.out, by rw [show R = (⟨s0, s1, l0 + 1, l1, 1 - first, winner⟩, set) by rw [HR.out]; simp [show ¬ l0 + 1 < m.legs by have := of_decide_eq_true hA; omega, h3, h4, h6, show ¬ m.clear ≤ l0 + 1 - l1 by have := of_decide_eq_false h5; omega]]; exact HB.out, HZ.out, HM.out, HE.out⟩
                    case measure => simp [intOf]; omega
                  · go_wp2
                    try simp only [hA]
                    refine wp_region_later (by kernel_rfl) (by kernel_rfl) ?_
                    repeat (go_big_quiet_step (fail))
                    refine wpQuiet_nil ?_
                    intro wq hwq
                    obtain ⟨⟨wq, hxq⟩, rfl⟩ := hwq
                    replace HB := Lib.hid (HB.out.ext hxq)
                    replace HM := Lib.hid (HM.out.ext hxq)
                    replace HZ := Lib.hid (HZ.out.ext hxq)
                    replace HE := Lib.hid (HE.out.trans hxq)
                    clear hxq
                    clear v0 v1 v2 v3 v4 v5 vs g0 g1 g2 g3 g4 g5 c0 c1 c2 c3 c4 cs
                    obtain ⟨⟨v0, v1, v2, v3, v4, v5⟩, vs, g0, g1, g2, g3, g4, g5⟩ := HB.out.six
                    obtain ⟨c0, c1, c2, c3, c4, cs⟩ := mt_cells HM.out
                    go_wp2
                    have hb0 : Blk _ N #[.int .i64 (s0 + 1), .int .i64 (s1), .int .i64 (l0 + 1), .int .i64 (l1), .int .i64 (1 - first), .int .i64 (winner)] := (HB.out).set 0 (.int .i64 (s0 + 1))
                    have hm9 := (HM.out.other (a := ⟨N, 0, none⟩) (by show (_ : Nat) ≠ N; omega) (.int .i64 (s0 + 1)))
                    have hz9 := (HZ.out.other (a := ⟨N, 0, none⟩) (by show (_ : Nat) ≠ N; omega) (.int .i64 (s0 + 1)))
                    have he9 := (HE.out.setCell (p := ⟨N, 0, none⟩) (by show w.heap.size ≤ N; omega) (.int .i64 (s0 + 1)))
                    replace HB := Lib.hid hb0
                    replace HM := Lib.hid hm9
                    replace HZ := Lib.hid hz9
                    replace HE := Lib.hid he9
                    clear hb0 hm9 hz9 he9
                    generalize World.setCell _ _ _ = w5 at *
                    clear v0 v1 v2 v3 v4 v5 vs g0 g1 g2 g3 g4 g5 c0 c1 c2 c3 c4 cs
                    obtain ⟨⟨v0, v1, v2, v3, v4, v5⟩, vs, g0, g1, g2, g3, g4, g5⟩ := HB.out.six
                    obtain ⟨c0, c1, c2, c3, c4, cs⟩ := mt_cells HM.out
                    try simp only [hA]
                    refine wp_region_later (by kernel_rfl) (by kernel_rfl) ?_
                    repeat (go_big_quiet_step (fail))
                    refine wpQuiet_nil ?_
                    intro wq hwq
                    obtain ⟨⟨wq, hxq⟩, rfl⟩ := hwq
                    replace HB := Lib.hid (HB.out.ext hxq)
                    replace HM := Lib.hid (HM.out.ext hxq)
                    replace HZ := Lib.hid (HZ.out.ext hxq)
                    replace HE := Lib.hid (HE.out.trans hxq)
                    clear hxq
                    clear v0 v1 v2 v3 v4 v5 vs g0 g1 g2 g3 g4 g5 c0 c1 c2 c3 c4 cs
                    obtain ⟨⟨v0, v1, v2, v3, v4, v5⟩, vs, g0, g1, g2, g3, g4, g5⟩ := HB.out.six
                    obtain ⟨c0, c1, c2, c3, c4, cs⟩ := mt_cells HM.out
                    cases h7 : s0 + 1 == m.sets
                    · go_wp2
                      have hb0 : Blk _ N #[.int .i64 (s0 + 1), .int .i64 (s1), .int .i64 (0), .int .i64 (l1), .int .i64 (1 - first), .int .i64 (winner)] := (HB.out).set 2 (.int .i64 (0))
                      have hb1 : Blk _ N #[.int .i64 (s0 + 1), .int .i64 (s1), .int .i64 (0), .int .i64 (0), .int .i64 (1 - first), .int .i64 (winner)] := (hb0).set 3 (.int .i64 (0))
                      have hb2 : Blk _ N #[.int .i64 (s0 + 1), .int .i64 (s1), .int .i64 (0), .int .i64 (0), .int .i64 (1 - set), .int .i64 (winner)] := (hb1).set 4 (.int .i64 (1 - set))
                      have hm9 := (((HM.out.other (a := ⟨N, 2, none⟩) (by show (_ : Nat) ≠ N; omega) (.int .i64 (0))).other (a := ⟨N, 3, none⟩) (by show (_ : Nat) ≠ N; omega) (.int .i64 (0))).other (a := ⟨N, 4, none⟩) (by show (_ : Nat) ≠ N; omega) (.int .i64 (1 - set)))
                      have hz9 := (((HZ.out.other (a := ⟨N, 2, none⟩) (by show (_ : Nat) ≠ N; omega) (.int .i64 (0))).other (a := ⟨N, 3, none⟩) (by show (_ : Nat) ≠ N; omega) (.int .i64 (0))).other (a := ⟨N, 4, none⟩) (by show (_ : Nat) ≠ N; omega) (.int .i64 (1 - set)))
                      have he9 := (((HE.out.setCell (p := ⟨N, 2, none⟩) (by show w.heap.size ≤ N; omega) (.int .i64 (0))).setCell (p := ⟨N, 3, none⟩) (by show w.heap.size ≤ N; omega) (.int .i64 (0))).setCell (p := ⟨N, 4, none⟩) (by show w.heap.size ≤ N; omega) (.int .i64 (1 - set)))
                      replace HB := Lib.hid hb2
                      replace HM := Lib.hid hm9
                      replace HZ := Lib.hid hz9
                      replace HE := Lib.hid he9
                      clear hb0 hb1 hb2 hm9 hz9 he9
                      go_roundw
                      case rel => exact ⟨k + 1, R.1, R.2, by omega, by rw [show R = (⟨s0 + 1, s1, 0, 0, 1 - set, winner⟩, 1 - set) by rw [HR.out]; simp [show ¬ l0 + 1 < m.legs by have := of_decide_eq_true hA; omega, h3, h4, h6, show ¬ m.clear ≤ l0 + 1 - l1 by have := of_decide_eq_false h5; omega, h7]], by go_num, HS1.out, HI1.out, by rw [show R = (⟨s0 + 1, s1, 0, 0, 1 - set, winner⟩, 1 - set) by rw [HR.out]; simp [show ¬ l0 + 1 < m.legs by have := of_decide_eq_true hA; omega, h3, h4, h6, show ¬ m.clear ≤ l0 + 1 - l1 by have := of_decide_eq_false h5; omega, h7]]; exact HB.out, HZ.out, HM.out, HE.out⟩
                      case measure => simp [intOf]; omega
                    · go_wp2
                      have hb0 : Blk _ N #[.int .i64 (s0 + 1), .int .i64 (s1), .int .i64 (l0 + 1), .int .i64 (l1), .int .i64 (-1), .int .i64 (winner)] := (HB.out).set 4 (.int .i64 (-1))
                      have hb1 : Blk _ N #[.int .i64 (s0 + 1), .int .i64 (s1), .int .i64 (l0 + 1), .int .i64 (l1), .int .i64 (-1), .int .i64 (0)] := (hb0).set 5 (.int .i64 (0))
                      have hm9 := ((HM.out.other (a := ⟨N, 4, none⟩) (by show (_ : Nat) ≠ N; omega) (.int .i64 (-1))).other (a := ⟨N, 5, none⟩) (by show (_ : Nat) ≠ N; omega) (.int .i64 (0)))
                      have hz9 := ((HZ.out.other (a := ⟨N, 4, none⟩) (by show (_ : Nat) ≠ N; omega) (.int .i64 (-1))).other (a := ⟨N, 5, none⟩) (by show (_ : Nat) ≠ N; omega) (.int .i64 (0)))
                      have he9 := ((HE.out.setCell (p := ⟨N, 4, none⟩) (by show w.heap.size ≤ N; omega) (.int .i64 (-1))).setCell (p := ⟨N, 5, none⟩) (by show w.heap.size ≤ N; omega) (.int .i64 (0)))
                      replace HB := Lib.hid hb1
                      replace HM := Lib.hid hm9
                      replace HZ := Lib.hid hz9
                      replace HE := Lib.hid he9
                      clear hb0 hb1 hm9 hz9 he9
                      have hRe : R = (⟨s0 + 1, s1, l0 + 1, l1, -1, 0⟩, set) := by rw [HR.out]; simp [show ¬ l0 + 1 < m.legs by have := of_decide_eq_true hA; omega, h3, h4, h6, show ¬ m.clear ≤ l0 + 1 - l1 by have := of_decide_eq_false h5; omega, h7]
                      have HRe := Lib.hid hRe
                      clear hRe
                      go_roundw
                      case rel => exact ⟨k + 1, R.1, 1 - set, by omega, rfl, by go_num, by rw [HS1.out]; exact congrArg matE (matW_over (by rw [HRe.out]; simp) _ _ _ _), Sc.inv_over HI1.out (by rw [HRe.out]; simp) ⟨by omega, by omega⟩, by rw [HRe.out]; exact HB.out, HZ.out, HM.out, HE.out⟩
                      case measure => simp [intOf]; omega
                · go_wp2
                  try simp only [hA]
                  refine wp_region_later (by kernel_rfl) (by kernel_rfl) ?_
                  repeat (go_big_quiet_step (fail))
                  refine wpQuiet_nil ?_
                  intro wq hwq
                  obtain ⟨⟨wq, hxq⟩, rfl⟩ := hwq
                  replace HB := Lib.hid (HB.out.ext hxq)
                  replace HM := Lib.hid (HM.out.ext hxq)
                  replace HZ := Lib.hid (HZ.out.ext hxq)
                  replace HE := Lib.hid (HE.out.trans hxq)
                  clear hxq
                  clear v0 v1 v2 v3 v4 v5 vs g0 g1 g2 g3 g4 g5 c0 c1 c2 c3 c4 cs
                  obtain ⟨⟨v0, v1, v2, v3, v4, v5⟩, vs, g0, g1, g2, g3, g4, g5⟩ := HB.out.six
                  obtain ⟨c0, c1, c2, c3, c4, cs⟩ := mt_cells HM.out
                  go_wp2
                  have hb0 : Blk _ N #[.int .i64 (s0 + 1), .int .i64 (s1), .int .i64 (l0 + 1), .int .i64 (l1), .int .i64 (1 - first), .int .i64 (winner)] := (HB.out).set 0 (.int .i64 (s0 + 1))
                  have hm9 := (HM.out.other (a := ⟨N, 0, none⟩) (by show (_ : Nat) ≠ N; omega) (.int .i64 (s0 + 1)))
                  have hz9 := (HZ.out.other (a := ⟨N, 0, none⟩) (by show (_ : Nat) ≠ N; omega) (.int .i64 (s0 + 1)))
                  have he9 := (HE.out.setCell (p := ⟨N, 0, none⟩) (by show w.heap.size ≤ N; omega) (.int .i64 (s0 + 1)))
                  replace HB := Lib.hid hb0
                  replace HM := Lib.hid hm9
                  replace HZ := Lib.hid hz9
                  replace HE := Lib.hid he9
                  clear hb0 hm9 hz9 he9
                  generalize World.setCell _ _ _ = w5 at *
                  clear v0 v1 v2 v3 v4 v5 vs g0 g1 g2 g3 g4 g5 c0 c1 c2 c3 c4 cs
                  obtain ⟨⟨v0, v1, v2, v3, v4, v5⟩, vs, g0, g1, g2, g3, g4, g5⟩ := HB.out.six
                  obtain ⟨c0, c1, c2, c3, c4, cs⟩ := mt_cells HM.out
                  try simp only [hA]
                  refine wp_region_later (by kernel_rfl) (by kernel_rfl) ?_
                  repeat (go_big_quiet_step (fail))
                  refine wpQuiet_nil ?_
                  intro wq hwq
                  obtain ⟨⟨wq, hxq⟩, rfl⟩ := hwq
                  replace HB := Lib.hid (HB.out.ext hxq)
                  replace HM := Lib.hid (HM.out.ext hxq)
                  replace HZ := Lib.hid (HZ.out.ext hxq)
                  replace HE := Lib.hid (HE.out.trans hxq)
                  clear hxq
                  clear v0 v1 v2 v3 v4 v5 vs g0 g1 g2 g3 g4 g5 c0 c1 c2 c3 c4 cs
                  obtain ⟨⟨v0, v1, v2, v3, v4, v5⟩, vs, g0, g1, g2, g3, g4, g5⟩ := HB.out.six
                  obtain ⟨c0, c1, c2, c3, c4, cs⟩ := mt_cells HM.out
                  cases h7 : s0 + 1 == m.sets
                  · go_wp2
                    have hb0 : Blk _ N #[.int .i64 (s0 + 1), .int .i64 (s1), .int .i64 (0), .int .i64 (l1), .int .i64 (1 - first), .int .i64 (winner)] := (HB.out).set 2 (.int .i64 (0))
                    have hb1 : Blk _ N #[.int .i64 (s0 + 1), .int .i64 (s1), .int .i64 (0), .int .i64 (0), .int .i64 (1 - first), .int .i64 (winner)] := (hb0).set 3 (.int .i64 (0))
                    have hb2 : Blk _ N #[.int .i64 (s0 + 1), .int .i64 (s1), .int .i64 (0), .int .i64 (0), .int .i64 (1 - set), .int .i64 (winner)] := (hb1).set 4 (.int .i64 (1 - set))
                    have hm9 := (((HM.out.other (a := ⟨N, 2, none⟩) (by show (_ : Nat) ≠ N; omega) (.int .i64 (0))).other (a := ⟨N, 3, none⟩) (by show (_ : Nat) ≠ N; omega) (.int .i64 (0))).other (a := ⟨N, 4, none⟩) (by show (_ : Nat) ≠ N; omega) (.int .i64 (1 - set)))
                    have hz9 := (((HZ.out.other (a := ⟨N, 2, none⟩) (by show (_ : Nat) ≠ N; omega) (.int .i64 (0))).other (a := ⟨N, 3, none⟩) (by show (_ : Nat) ≠ N; omega) (.int .i64 (0))).other (a := ⟨N, 4, none⟩) (by show (_ : Nat) ≠ N; omega) (.int .i64 (1 - set)))
                    have he9 := (((HE.out.setCell (p := ⟨N, 2, none⟩) (by show w.heap.size ≤ N; omega) (.int .i64 (0))).setCell (p := ⟨N, 3, none⟩) (by show w.heap.size ≤ N; omega) (.int .i64 (0))).setCell (p := ⟨N, 4, none⟩) (by show w.heap.size ≤ N; omega) (.int .i64 (1 - set)))
                    replace HB := Lib.hid hb2
                    replace HM := Lib.hid hm9
                    replace HZ := Lib.hid hz9
                    replace HE := Lib.hid he9
                    clear hb0 hb1 hb2 hm9 hz9 he9
                    go_roundw
                    case rel => exact ⟨k + 1, R.1, R.2, by omega, by rw [show R = (⟨s0 + 1, s1, 0, 0, 1 - set, winner⟩, 1 - set) by rw [HR.out]; simp [show ¬ l0 + 1 < m.legs by have := of_decide_eq_true hA; omega, h3, h4, show m.clear ≤ l0 + 1 - l1 by have := of_decide_eq_true h5; omega, h7]], by go_num, HS1.out, HI1.out, by rw [show R = (⟨s0 + 1, s1, 0, 0, 1 - set, winner⟩, 1 - set) by rw [HR.out]; simp [show ¬ l0 + 1 < m.legs by have := of_decide_eq_true hA; omega, h3, h4, show m.clear ≤ l0 + 1 - l1 by have := of_decide_eq_true h5; omega, h7]]; exact HB.out, HZ.out, HM.out, HE.out⟩
                    case measure => simp [intOf]; omega
                  · go_wp2
                    have hb0 : Blk _ N #[.int .i64 (s0 + 1), .int .i64 (s1), .int .i64 (l0 + 1), .int .i64 (l1), .int .i64 (-1), .int .i64 (winner)] := (HB.out).set 4 (.int .i64 (-1))
                    have hb1 : Blk _ N #[.int .i64 (s0 + 1), .int .i64 (s1), .int .i64 (l0 + 1), .int .i64 (l1), .int .i64 (-1), .int .i64 (0)] := (hb0).set 5 (.int .i64 (0))
                    have hm9 := ((HM.out.other (a := ⟨N, 4, none⟩) (by show (_ : Nat) ≠ N; omega) (.int .i64 (-1))).other (a := ⟨N, 5, none⟩) (by show (_ : Nat) ≠ N; omega) (.int .i64 (0)))
                    have hz9 := ((HZ.out.other (a := ⟨N, 4, none⟩) (by show (_ : Nat) ≠ N; omega) (.int .i64 (-1))).other (a := ⟨N, 5, none⟩) (by show (_ : Nat) ≠ N; omega) (.int .i64 (0)))
                    have he9 := ((HE.out.setCell (p := ⟨N, 4, none⟩) (by show w.heap.size ≤ N; omega) (.int .i64 (-1))).setCell (p := ⟨N, 5, none⟩) (by show w.heap.size ≤ N; omega) (.int .i64 (0)))
                    replace HB := Lib.hid hb1
                    replace HM := Lib.hid hm9
                    replace HZ := Lib.hid hz9
                    replace HE := Lib.hid he9
                    clear hb0 hb1 hm9 hz9 he9
                    have hRe : R = (⟨s0 + 1, s1, l0 + 1, l1, -1, 0⟩, set) := by rw [HR.out]; simp [show ¬ l0 + 1 < m.legs by have := of_decide_eq_true hA; omega, h3, h4, show m.clear ≤ l0 + 1 - l1 by have := of_decide_eq_true h5; omega, h7]
                    have HRe := Lib.hid hRe
                    clear hRe
                    go_roundw
                    case rel => exact ⟨k + 1, R.1, 1 - set, by omega, rfl, by go_num, by rw [HS1.out]; exact congrArg matE (matW_over (by rw [HRe.out]; simp) _ _ _ _), Sc.inv_over HI1.out (by rw [HRe.out]; simp) ⟨by omega, by omega⟩, by rw [HRe.out]; exact HB.out, HZ.out, HM.out, HE.out⟩
                    case measure => simp [intOf]; omega
      · rw [if_pos e1] at hS1
        have HS1 := Lib.hid hS1
        clear hS1
        go_wp2
        refine bodyPost_ret (v := .tuple #[Sc.zero.agg, .int .i64 k, .int .i64 33]) (by simp [results, Try.results32, go_sem, Sc.zero, Sc.agg, *]) rfl ⟨?_, six_ext HE.out (by omega) _ _ _ _ _ _⟩
        rw [HS1.out]; simp [matE]
    · obtain rfl : k = l.length := by omega
      have hS1 : T = (⟨s0, s1, l0, l1, first, winner⟩, 0, 0) := by rw [HS.out]; simp [matW, matE]
      have HS1 := Lib.hid hS1
      clear hS1 HS
      go_wp2
      generalize hW : World.setCell _ _ _ = W
      have hE4 : Ext w W := by rw [← hW]; exact six_ext HE.out (by omega) _ _ _ _ _ _
      have hZ4 : Blk W (w.heap.size + 1) #[.int .i64 s0, .int .i64 s1, .int .i64 l0, .int .i64 l1, .int .i64 first, .int .i64 winner] := by rw [← hW]; exact six_set HZ.out _ _ _ _ _ _
      obtain ⟨⟨q0, q1, q2, q3, q4, q5⟩, _⟩ := hZ4.six
      refine bodyPost_ret (v := .tuple #[Sc.agg ⟨s0, s1, l0, l1, first, winner⟩, .int .i64 0, .int .i64 0]) (by simp [results, Try.results32, go_sem, Sc.agg, q0, q1, q2, q3, q4, q5]) rfl ⟨?_, hE4⟩
      rw [HS1.out]
end Go.Proofs.Ytocnglplhnhllaa
