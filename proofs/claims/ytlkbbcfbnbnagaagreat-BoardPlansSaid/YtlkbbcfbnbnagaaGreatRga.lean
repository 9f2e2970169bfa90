/-
  The reference of chapter 1: products, points, between; what the statements look at.
-/
import Derived.Test.YtlkbbcfbnbnagaaGreatBoF
import Derived.Test.YtlkbbcfbnbnagaaGreatGeo
import Derived.Test.YtlkbbcfbnbnagaaGreatBoL
import Derived.Deep.DeepCutAuto
namespace Go.Proofs.YtlkbbcfbnbnagaaGreat
open Go.RowKit Go.BigFrame
attribute [local go_sem] Later.cell Later.frozen
theorem ref_cross (d p : Pt) (w : World) (hd : d.ok) (hp : p.ok) : Calls Tryz.prog 58 #[d.agg, p.agg] w fun e w' => e = .returned (.int .i64 (crossP d p)) ∧ Ext w w' := by
  obtain ⟨x, y⟩ := d
  obtain ⟨a, b⟩ := p
  have h1 := mul_small hd.1 hp.2
  have h2 := mul_small hd.2 hp.1
  simp only at h1 h2
  obtain ⟨h10, h11⟩ := h1
  obtain ⟨h20, h21⟩ := h2
  unfold Pt.agg crossP
  clear hd hp
  go_enter Tryz.func58, Tryz.ntmps58
  go_wp2
  go_ret
  exact ⟨rfl, ((Ext.refl w).alloc _).alloc _⟩
theorem ref_dot (d p : Pt) (w : World) (hd : d.ok) (hp : p.ok) : Calls Tryz.prog 81 #[d.agg, p.agg] w fun e w' => e = .returned (.int .i64 (dotP d p)) ∧ Ext w w' := by
  obtain ⟨x, y⟩ := d
  obtain ⟨a, b⟩ := p
  have h1 := mul_small hd.1 hp.1
  have h2 := mul_small hd.2 hp.2
  simp only at h1 h2
  obtain ⟨h10, h11⟩ := h1
  obtain ⟨h20, h21⟩ := h2
  unfold Pt.agg dotP
  clear hd hp
  go_enter Tryz.func81, Tryz.ntmps81
  go_wp2
  go_ret
  exact ⟨rfl, ((Ext.refl w).alloc _).alloc _⟩
theorem ptB_eq (p : Pt) : ptB p = (decide (-5000 ≤ p.x) && (decide (p.x ≤ 5000) && (decide (-5000 ≤ p.y) && decide (p.y ≤ 5000)))) := by
  rw [Bool.eq_iff_iff]
  simp only [Bool.and_eq_true, decide_eq_true_eq]
  unfold ptB
  rw [ins_two]
  omega
theorem ref_point (p : Pt) (w : World) : Calls Tryz.prog 57 #[p.agg] w fun e w' => e = .returned (.bool (ptB p)) ∧ Ext w w' := by
  rw [ptB_eq]
  obtain ⟨x, y⟩ := p
  unfold Pt.agg
  simp only
  go_enter Tryz.func57, Tryz.ntmps57
  cases h1 : decide (-5000 ≤ x)
  case false =>
    go_wp2
    go_ret
    exact ⟨rfl, (Ext.refl w).alloc _⟩
  case true =>
  cases h2 : decide (x ≤ 5000)
  case false =>
    go_wp2
    go_ret
    exact ⟨rfl, (Ext.refl w).alloc _⟩
  case true =>
  cases h3 : decide (-5000 ≤ y)
  case false =>
    go_wp2
    go_ret
    exact ⟨rfl, (Ext.refl w).alloc _⟩
  case true =>
  go_wp2
  go_ret
  exact ⟨by simp, (Ext.refl w).alloc _⟩
theorem ref_between (l n p : Pt) (w : World) (hl : l.ok) (hn : n.ok) (hp : p.ok) : Calls Tryz.prog 59 #[l.agg, n.agg, p.agg] w fun e w' => e = .returned (.bool (btwP l n p)) ∧ Ext w w' := by
  have HC := Lib.hid (fun W => ref_cross l p W hl hp)
  have HD := Lib.hid (fun W => ref_dot l p W hl hp)
  have HN := Lib.hid (fun W => ref_cross p n W hp hn)
  have hc := cross_small hl hp
  obtain ⟨g, hg⟩ : ∃ g, btwP l n p = g := ⟨_, rfl⟩
  have HG := Lib.hid hg
  rw [hg]
  unfold btwP at HG
  clear hg
  generalize crossP l p = c at *
  generalize dotP l p = d at *
  generalize crossP p n = e at *
  obtain ⟨lx, ly⟩ := l
  obtain ⟨nx, ny⟩ := n
  obtain ⟨px, py⟩ := p
  obtain ⟨c0, c1⟩ := hc
  unfold Pt.agg at *
  simp only at HC HD HN ⊢
  clear hl hn hp
  go_enter Tryz.func59, Tryz.ntmps59
  go_wp2_with fail
  refine (HC.out _).mono ?_
  rintro e1 w1 ⟨rfl, hx1⟩
  have hX1 := ((((Ext.refl w).alloc (.cells #[.int .i64 lx, .int .i64 ly] 60)).alloc (.cells #[.int .i64 nx, .int .i64 ny] 60)).alloc (.cells #[.int .i64 px, .int .i64 py] 60)).trans hx1
  have b0 : Blk w1 w.heap.size #[.int .i64 lx, .int .i64 ly] := (((Blk.new _ _ _).alloc _).alloc _).ext hx1
  have b1 : Blk w1 (w.heap.size + 1) #[.int .i64 nx, .int .i64 ny] := ((Blk.at _ (by simp)).alloc _).ext hx1
  have b2 : Blk w1 (w.heap.size + 1 + 1) #[.int .i64 px, .int .i64 py] := (Blk.at _ (by simp)).ext hx1
  have HX1 := Lib.hid hX1
  have x0 := b0.cell 0 (v := .int .i64 lx) rfl
  have x1 := b0.cell 1 (v := .int .i64 ly) rfl
  have xl := b0.lt
  have y0 := b1.cell 0 (v := .int .i64 nx) rfl
  have y1 := b1.cell 1 (v := .int .i64 ny) rfl
  have yl := b1.lt
  have z0 := b2.cell 0 (v := .int .i64 px) rfl
  have z1 := b2.cell 1 (v := .int .i64 py) rfl
  have zl := b2.lt
  clear hX1 hx1 b0 b1 b2
  by_cases h0 : c = 0
  · subst h0
    have hg := HG.out
    rw [if_pos rfl] at hg
    subst hg
    go_wp2_with fail
    refine (HD.out _).mono ?_
    rintro e2 w2 ⟨rfl, hx2⟩
    have HX2 := Lib.hid (HX1.out.trans hx2)
    clear hx2
    go_wp2
    go_ret
    exact ⟨rfl, HX2.out⟩
  · have hg := HG.out
    rw [if_neg h0] at hg
    cases hlt : decide (c < 0)
    case false =>
      rw [hlt, Bool.false_and] at hg
      subst hg
      go_wp2
      go_ret
      exact ⟨rfl, HX1.out⟩
    case true =>
      rw [hlt, Bool.true_and] at hg
      subst hg
      go_wp2_with fail
      refine (HN.out _).mono ?_
      rintro e2 w2 ⟨rfl, hx2⟩
      have HX2 := Lib.hid (HX1.out.trans hx2)
      clear hx2
      go_wp2
      go_ret
      exact ⟨by simp, HX2.out⟩
/-- What is farther than the statements look. -/
def farB (n : Int) : Bool := decide (1000000 < n) || decide (n < -1000000)
theorem law_far (n : Int) (w : World) : Calls Tryz.prog 24 #[.int .i64 n] w fun e w' => e = .returned (.bool (farB n)) ∧ Ext w w' := by
  unfold farB
  go_enter Tryz.func24, Tryz.ntmps24
  cases h1 : decide (1000000 < n)
  all_goals
    go_wp2
    go_ret
    exact ⟨rfl, Ext.refl w⟩
def greatB (b : Brd) : Bool := decide (10 < b.rings.length) || (decide (25 < b.lines.length) || (decide (25 < b.nums.length) || (farB b.eye || (farB b.bull || (farB b.wire || (b.rings.any (fun r => farB r.outer) || b.lines.any (fun p => farB p.x || farB p.y)))))))
theorem any_take {α : Type} (q : α → Bool) (l : List α) {k : Nat} (h : k < l.length) (hp : (l.take k).any q = false) : (l.take (k + 1)).any q = q l[k] := by
  rw [List.take_succ_eq_append_getElem h, List.any_append, hp]; simp
theorem any_hit {α : Type} (q : α → Bool) (l : List α) {k : Nat} (h : k < l.length) (hq : q l[k] = true) : l.any q = true := List.any_eq_true.2 ⟨_, List.getElem_mem h, hq⟩
set_option maxHeartbeats 4000000 in
theorem law_great (v : BrdV) (b : Brd) (w : World) (h : BrdAt w v b) (hs : b.rings.length ≤ maxLen ∧ b.lines.length ≤ maxLen ∧ b.nums.length ≤ maxLen) :
    Calls Tryz.prog 5 #[.agg (v.cells b)] w fun e w' => e = .returned (.bool (greatB b)) ∧ Ext w w' := by
  have HR := Lib.hid h.rings
  have HL := Lib.hid h.lines
  have HF := Lib.hid law_far
  unfold maxLen at hs
  obtain ⟨hs1, hs2, hs3⟩ := hs
  obtain ⟨g, hg⟩ : ∃ g, greatB b = g := ⟨_, rfl⟩
  have HG := Lib.hid hg
  rw [hg]
  unfold greatB at HG
  obtain ⟨eye, bull, rings, lines, nums, wire⟩ := b
  obtain ⟨ra, la, na, rc, lc, nc⟩ := v
  unfold BrdV.cells
  simp only at hs1 hs2 hs3 HR HL HG ⊢
  clear h hg
  have e0 : decide (10 < rings.length) = decide ((10 : Int) < (rings.length : Int)) := decide_eq_decide.2 (by omega)
  have e1 : decide (25 < lines.length) = decide ((25 : Int) < (lines.length : Int)) := decide_eq_decide.2 (by omega)
  have e2 : decide (25 < nums.length) = decide ((25 : Int) < (nums.length : Int)) := decide_eq_decide.2 (by omega)
  rw [e0, e1, e2] at HG
  clear e0 e1 e2
  go_enter Tryz.func5, Tryz.ntmps5
  cases h0 : decide ((10 : Int) < (rings.length : Int))
  case true =>
    obtain rfl : g = true := by rw [← HG.out]; simp only [h0, Bool.true_or]
    go_wp2_with fail
    go_ret
    exact ⟨rfl, (Ext.refl w).alloc _⟩
  case false =>
  cases h1 : decide ((25 : Int) < (lines.length : Int))
  case true =>
    obtain rfl : g = true := by rw [← HG.out]; simp only [h0, h1, Bool.true_or, Bool.false_or]
    go_wp2_with fail
    go_ret
    exact ⟨rfl, (Ext.refl w).alloc _⟩
  case false =>
  cases h2 : decide ((25 : Int) < (nums.length : Int))
  case true =>
    obtain rfl : g = true := by rw [← HG.out]; simp only [h0, h1, h2, Bool.true_or, Bool.false_or]
    go_wp2_with fail
    go_ret
    exact ⟨rfl, (Ext.refl w).alloc _⟩
  case false =>
  have HB0 : Hid (Blk (w.alloc (.cells #[.int .i64 eye, .int .i64 bull, .slice ra rings.length rc, .slice la lines.length lc, .slice na nums.length nc, .int .i64 wire] 26)) w.heap.size #[.int .i64 eye, .int .i64 bull, .slice ra rings.length rc, .slice la lines.length lc, .slice na nums.length nc, .int .i64 wire]) := Lib.hid (Blk.new _ _ _)
  have HX0 : Hid (Ext w (w.alloc (.cells #[.int .i64 eye, .int .i64 bull, .slice ra rings.length rc, .slice la lines.length lc, .slice na nums.length nc, .int .i64 wire] 26))) := Lib.hid ((Ext.refl w).alloc _)
  go_wp2_with fail
  refine (HF.out eye _).mono ?_
  rintro e w1 ⟨rfl, hx1⟩
  have HB1 := Lib.hid (HB0.out.ext hx1)
  have HX1 := Lib.hid (HX0.out.trans hx1)
  clear hx1
  have m0 := HB1.out.cell 0 (v := .int .i64 eye) rfl
  have m1 := HB1.out.cell 1 (v := .int .i64 bull) rfl
  have m2 := HB1.out.cell 2 (v := .slice ra rings.length rc) rfl
  have m3 := HB1.out.cell 3 (v := .slice la lines.length lc) rfl
  have m4 := HB1.out.cell 4 (v := .slice na nums.length nc) rfl
  have m5 := HB1.out.cell 5 (v := .int .i64 wire) rfl
  have ml := HB1.out.lt
  cases f0 : farB eye
  case true =>
    obtain rfl : g = true := by rw [← HG.out]; simp only [h0, h1, h2, f0, Bool.true_or, Bool.false_or]
    go_wp2_with fail
    go_ret
    exact ⟨rfl, HX1.out⟩
  case false =>
  go_wp2_with fail
  refine (HF.out bull _).mono ?_
  rintro e w2 ⟨rfl, hx2⟩
  have HB2 := Lib.hid (HB1.out.ext hx2)
  have HX2 := Lib.hid (HX1.out.trans hx2)
  clear hx2
  clear m0 m1 m2 m3 m4 m5 ml
  have m0 := HB2.out.cell 0 (v := .int .i64 eye) rfl
  have m1 := HB2.out.cell 1 (v := .int .i64 bull) rfl
  have m2 := HB2.out.cell 2 (v := .slice ra rings.length rc) rfl
  have m3 := HB2.out.cell 3 (v := .slice la lines.length lc) rfl
  have m4 := HB2.out.cell 4 (v := .slice na nums.length nc) rfl
  have m5 := HB2.out.cell 5 (v := .int .i64 wire) rfl
  have ml := HB2.out.lt
  cases f1 : farB bull
  case true =>
    obtain rfl : g = true := by rw [← HG.out]; simp only [h0, h1, h2, f0, f1, Bool.true_or, Bool.false_or]
    go_wp2_with fail
    go_ret
    exact ⟨rfl, HX2.out⟩
  case false =>
  go_wp2_with fail
  refine (HF.out wire _).mono ?_
  rintro e w3 ⟨rfl, hx3⟩
  have HB3 := Lib.hid (HB2.out.ext hx3)
  have HX3 := Lib.hid (HX2.out.trans hx3)
  clear hx3
  clear m0 m1 m2 m3 m4 m5 ml
  have m0 := HB3.out.cell 0 (v := .int .i64 eye) rfl
  have m1 := HB3.out.cell 1 (v := .int .i64 bull) rfl
  have m2 := HB3.out.cell 2 (v := .slice ra rings.length rc) rfl
  have m3 := HB3.out.cell 3 (v := .slice la lines.length lc) rfl
  have m4 := HB3.out.cell 4 (v := .slice na nums.length nc) rfl
  have m5 := HB3.out.cell 5 (v := .int .i64 wire) rfl
  have ml := HB3.out.lt
  cases f2 : farB wire
  case true =>
    obtain rfl : g = true := by rw [← HG.out]; simp only [h0, h1, h2, f0, f1, f2, Bool.true_or, Bool.false_or]
    go_wp2_with fail
    go_ret
    exact ⟨rfl, HX3.out⟩
  case false =>
  have HG2 : Hid ((rings.any (fun r => farB r.outer) || lines.any (fun p => farB p.x || farB p.y)) = g) := Lib.hid (by rw [← HG.out]; simp only [h0, h1, h2, f0, f1, f2, Bool.false_or])
  clear h0 h1 h2 f0 f1 f2
  go_wp2_with fail
  go_loopw [4] (fun i wr => ∃ k : Nat, k ≤ rings.length ∧ i = .int .i64 k ∧ (rings.take k).any (fun r => farB r.outer) = false ∧ Ext w3 wr) (fun i _ => rings.length - (intOf i).toNat)
  case atStart => exact ⟨0, Nat.zero_le _, rfl, rfl, Ext.refl w3⟩
  case round =>
    obtain ⟨k, hk, rfl, hno, hx⟩ := hrel
    have HNO := Lib.hid hno
    have HBr := Lib.hid (HB3.out.ext hx)
    have HXr := Lib.hid (HX3.out.trans hx)
    have HX3r := Lib.hid hx
    have hRr := HR.out.ext HXr.out
    clear m0 m1 m2 m3 m4 m5 ml
    have m0 := HBr.out.cell 0 (v := .int .i64 eye) rfl
    have m1 := HBr.out.cell 1 (v := .int .i64 bull) rfl
    have m2 := HBr.out.cell 2 (v := .slice ra rings.length rc) rfl
    have m3 := HBr.out.cell 3 (v := .slice la lines.length lc) rfl
    have m4 := HBr.out.cell 4 (v := .slice na nums.length nc) rfl
    have m5 := HBr.out.cell 5 (v := .int .i64 wire) rfl
    have ml := HBr.out.lt
    clear hno hx
    by_cases hlt : k < rings.length
    · obtain ⟨b, o, e, x0, x1⟩ := hRr k hlt
      have xl := lt_of_cell x0
      simp only at xl
      subst e
      have HT := Lib.hid (any_take (fun r => farB r.outer) rings hlt HNO.out)
      have HH := Lib.hid (any_hit (fun r => farB r.outer) rings hlt)
      have HFF := Lib.hid (HF.out rings[k].outer)
      generalize rings[k].outer = z at *
      generalize farB z = q at *
      clear hRr
      go_wp2_with fail
      refine (HFF.out _).mono ?_
      rintro e w5 ⟨rfl, hx5⟩
      have HX5 := Lib.hid hx5
      clear hx5
      cases q
      case true =>
        obtain rfl : g = true := by rw [← HG2.out, HH.out rfl]; rfl
        go_wp2_with fail
        go_ret
        exact ⟨rfl, HXr.out.trans HX5.out⟩
      case false =>
        go_wp2_with fail
        go_roundw
        case rel => exact ⟨k + 1, by omega, by go_num, HT.out, HX3r.out.trans HX5.out⟩
        case measure => simp [intOf]; omega
    · obtain rfl : k = rings.length := by omega
      have HG3 : Hid (lines.any (fun p => farB p.x || farB p.y) = g) := Lib.hid (by
        have h1 := HNO.out
        rw [List.take_of_length_le (Nat.le_refl _)] at h1
        rw [← HG2.out, h1, Bool.false_or])
      obtain ⟨W, hW⟩ : ∃ x, wr = x := ⟨_, rfl⟩
      rw [hW] at HBr HXr hRr m0 m1 m2 m3 m4 m5 ml ⊢
      clear hRr HX3r hW
      go_wp2_with fail
      go_loopw [5] (fun i wr => ∃ k : Nat, k ≤ lines.length ∧ i = .int .i64 k ∧ (lines.take k).any (fun p => farB p.x || farB p.y) = false ∧ Ext W wr) (fun i _ => lines.length - (intOf i).toNat)
      case atStart => exact ⟨0, Nat.zero_le _, rfl, rfl, Ext.refl W⟩
      case round =>
        obtain ⟨k, hk, rfl, hno, hx⟩ := hrel
        have HNO2 := Lib.hid hno
        have HB5 := Lib.hid (HBr.out.ext hx)
        have HX5 := Lib.hid (HXr.out.trans hx)
        have HX6 := Lib.hid hx
        have hLr := HL.out.ext HX5.out
        clear m0 m1 m2 m3 m4 m5 ml
        have m0 := HB5.out.cell 0 (v := .int .i64 eye) rfl
        have m1 := HB5.out.cell 1 (v := .int .i64 bull) rfl
        have m2 := HB5.out.cell 2 (v := .slice ra rings.length rc) rfl
        have m3 := HB5.out.cell 3 (v := .slice la lines.length lc) rfl
        have m4 := HB5.out.cell 4 (v := .slice na nums.length nc) rfl
        have m5 := HB5.out.cell 5 (v := .int .i64 wire) rfl
        have ml := HB5.out.lt
        clear hno hx
        by_cases hlt : k < lines.length
        · obtain ⟨b, o, e, x0, x1⟩ := hLr k hlt
          have xl := lt_of_cell x0
          simp only at xl
          subst e
          have HT := Lib.hid (any_take (fun p => farB p.x || farB p.y) lines hlt HNO2.out)
          have HH := Lib.hid (any_hit (fun p => farB p.x || farB p.y) lines hlt)
          have HFX := Lib.hid (HF.out lines[k].x)
          have HFY := Lib.hid (HF.out lines[k].y)
          generalize lines[k].x = px at *
          generalize lines[k].y = py at *
          generalize farB px = q at *
          generalize farB py = r at *
          clear hLr
          go_wp2_with fail
          refine (HFX.out _).mono ?_
          rintro e w7 ⟨rfl, hx7⟩
          have HX7 := Lib.hid hx7
          have HB7 := Lib.hid (HB5.out.ext hx7)
          replace x0 := hx7.cell x0
          replace x1 := hx7.cell x1
          have xl := lt_of_cell x0
          simp only at xl
          clear hx7 m0 m1 m2 m3 m4 m5 ml
          have m0 := HB7.out.cell 0 (v := .int .i64 eye) rfl
          have m1 := HB7.out.cell 1 (v := .int .i64 bull) rfl
          have m2 := HB7.out.cell 2 (v := .slice ra rings.length rc) rfl
          have m3 := HB7.out.cell 3 (v := .slice (some ⟨b, o, none⟩) lines.length lc) rfl
          have m4 := HB7.out.cell 4 (v := .slice na nums.length nc) rfl
          have m5 := HB7.out.cell 5 (v := .int .i64 wire) rfl
          have ml := HB7.out.lt
          cases q
          case true =>
            obtain rfl : g = true := by rw [← HG3.out, HH.out rfl]
            go_wp2_with fail
            go_ret
            exact ⟨rfl, HX5.out.trans HX7.out⟩
          case false =>
            go_wp2_with fail
            refine (HFY.out _).mono ?_
            rintro e w8 ⟨rfl, hx8⟩
            have HX8 := Lib.hid hx8
            clear hx8
            cases r
            case true =>
              obtain rfl : g = true := by rw [← HG3.out, HH.out rfl]
              go_wp2_with fail
              go_ret
              exact ⟨rfl, HX5.out.trans (HX7.out.trans HX8.out)⟩
            case false =>
              go_wp2_with fail
              go_roundw
              case rel => exact ⟨k + 1, by omega, by go_num, HT.out, HX6.out.trans (HX7.out.trans HX8.out)⟩
              case measure => simp [intOf]; omega
        · obtain rfl : k = lines.length := by omega
          obtain rfl : g = false := by
            have h1 := HNO2.out
            rw [List.take_of_length_le (Nat.le_refl _)] at h1
            rw [← HG3.out, h1]
          go_wp2_with fail
          go_ret
          exact ⟨rfl, HX5.out⟩
end Go.Proofs.YtlkbbcfbnbnagaaGreat
