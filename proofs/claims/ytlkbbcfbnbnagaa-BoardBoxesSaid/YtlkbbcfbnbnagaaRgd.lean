/-
  The reference of chapter 1: the error of a board.
-/
import Derived.Test.YtlkbbcfbnbnagaaBoF
import Derived.Test.YtlkbbcfbnbnagaaGeo
import Derived.Test.YtlkbbcfbnbnagaaBoL
import Derived.Deep.DeepCutAuto
import Derived.Test.YtlkbbcfbnbnagaaOwn
import Derived.Test.YtlkbbcfbnbnagaaBoP
import Derived.Test.YtlkbbcfbnbnagaaWea
namespace Go.Proofs.Ytlkbbcfbnbnagaa
open Go.RowKit Go.BigFrame
attribute [local go_sem] Later.cell Later.frozen
theorem ref_cross (d p : Pt) (w : World) (hd : d.ok) (hp : p.ok) : Calls Try.prog 59 #[d.agg, p.agg] w fun e w' => e = .returned (.int .i64 (crossP d p)) ∧ Ext w w' := by
  obtain ⟨x, y⟩ := d
  obtain ⟨a, b⟩ := p
  have h1 := mul_small hd.1 hp.2
  have h2 := mul_small hd.2 hp.1
  simp only at h1 h2
  obtain ⟨h10, h11⟩ := h1
  obtain ⟨h20, h21⟩ := h2
  unfold Pt.agg crossP
  clear hd hp
  go_enter Try.func59, Try.ntmps59
  go_wp2
  go_ret
  exact ⟨rfl, ((Ext.refl w).alloc _).alloc _⟩
theorem ref_dot (d p : Pt) (w : World) (hd : d.ok) (hp : p.ok) : Calls Try.prog 57 #[d.agg, p.agg] w fun e w' => e = .returned (.int .i64 (dotP d p)) ∧ Ext w w' := by
  obtain ⟨x, y⟩ := d
  obtain ⟨a, b⟩ := p
  have h1 := mul_small hd.1 hp.1
  have h2 := mul_small hd.2 hp.2
  simp only at h1 h2
  obtain ⟨h10, h11⟩ := h1
  obtain ⟨h20, h21⟩ := h2
  unfold Pt.agg dotP
  clear hd hp
  go_enter Try.func57, Try.ntmps57
  go_wp2
  go_ret
  exact ⟨rfl, ((Ext.refl w).alloc _).alloc _⟩
theorem ptB_eq (p : Pt) : ptB p = (decide (-5000 ≤ p.x) && (decide (p.x ≤ 5000) && (decide (-5000 ≤ p.y) && decide (p.y ≤ 5000)))) := by
  rw [Bool.eq_iff_iff]
  simp only [Bool.and_eq_true, decide_eq_true_eq]
  unfold ptB
  rw [ins_two]
  omega
theorem ref_point (p : Pt) (w : World) : Calls Try.prog 26 #[p.agg] w fun e w' => e = .returned (.bool (ptB p)) ∧ Ext w w' := by
  rw [ptB_eq]
  obtain ⟨x, y⟩ := p
  unfold Pt.agg
  simp only
  go_enter Try.func26, Try.ntmps26
  cases h1 : decide (-5000 ≤ x)
  case false =>
    go_wp2
    go_ret
    exact ⟨rfl, (Ext.refl w).alloc _⟩
  case true =>
  cases h2 : decide (x ≤ 5000)
  case false =>
    go_wp2
    go_ret
    exact ⟨rfl, (Ext.refl w).alloc _⟩
  case true =>
  cases h3 : decide (-5000 ≤ y)
  case false =>
    go_wp2
    go_ret
    exact ⟨rfl, (Ext.refl w).alloc _⟩
  case true =>
  go_wp2
  go_ret
  exact ⟨by simp, (Ext.refl w).alloc _⟩
theorem ref_between (l n p : Pt) (w : World) (hl : l.ok) (hn : n.ok) (hp : p.ok) : Calls Try.prog 67 #[l.agg, n.agg, p.agg] w fun e w' => e = .returned (.bool (btwP l n p)) ∧ Ext w w' := by
  have HC := Lib.hid (fun W => ref_cross l p W hl hp)
  have HD := Lib.hid (fun W => ref_dot l p W hl hp)
  have HN := Lib.hid (fun W => ref_cross p n W hp hn)
  have hc := cross_small hl hp
  obtain ⟨g, hg⟩ : ∃ g, btwP l n p = g := ⟨_, rfl⟩
  have HG := Lib.hid hg
  rw [hg]
  unfold btwP at HG
  clear hg
  generalize crossP l p = c at *
  generalize dotP l p = d at *
  generalize crossP p n = e at *
  obtain ⟨lx, ly⟩ := l
  obtain ⟨nx, ny⟩ := n
  obtain ⟨px, py⟩ := p
  obtain ⟨c0, c1⟩ := hc
  unfold Pt.agg at *
  simp only at HC HD HN ⊢
  clear hl hn hp
  go_enter Try.func67, Try.ntmps67
  go_wp2_with fail
  refine (HC.out _).mono ?_
  rintro e1 w1 ⟨rfl, hx1⟩
  have hX1 := ((((Ext.refl w).alloc (.cells #[.int .i64 lx, .int .i64 ly] 53)).alloc (.cells #[.int .i64 nx, .int .i64 ny] 53)).alloc (.cells #[.int .i64 px, .int .i64 py] 53)).trans hx1
  have b0 : Blk w1 w.heap.size #[.int .i64 lx, .int .i64 ly] := (((Blk.new _ _ _).alloc _).alloc _).ext hx1
  have b1 : Blk w1 (w.heap.size + 1) #[.int .i64 nx, .int .i64 ny] := ((Blk.at _ (by simp)).alloc _).ext hx1
  have b2 : Blk w1 (w.heap.size + 1 + 1) #[.int .i64 px, .int .i64 py] := (Blk.at _ (by simp)).ext hx1
  have HX1 := Lib.hid hX1
  have x0 := b0.cell 0 (v := .int .i64 lx) rfl
  have x1 := b0.cell 1 (v := .int .i64 ly) rfl
  have xl := b0.lt
  have y0 := b1.cell 0 (v := .int .i64 nx) rfl
  have y1 := b1.cell 1 (v := .int .i64 ny) rfl
  have yl := b1.lt
  have z0 := b2.cell 0 (v := .int .i64 px) rfl
  have z1 := b2.cell 1 (v := .int .i64 py) rfl
  have zl := b2.lt
  clear hX1 hx1 b0 b1 b2
  by_cases h0 : c = 0
  · subst h0
    have hg := HG.out
    rw [if_pos rfl] at hg
    subst hg
    go_wp2_with fail
    refine (HD.out _).mono ?_
    rintro e2 w2 ⟨rfl, hx2⟩
    have HX2 := Lib.hid (HX1.out.trans hx2)
    clear hx2
    go_wp2
    go_ret
    exact ⟨rfl, HX2.out⟩
  · have hg := HG.out
    rw [if_neg h0] at hg
    cases hlt : decide (c < 0)
    case false =>
      rw [hlt, Bool.false_and] at hg
      subst hg
      go_wp2
      go_ret
      exact ⟨rfl, HX1.out⟩
    case true =>
      rw [hlt, Bool.true_and] at hg
      subst hg
      go_wp2_with fail
      refine (HN.out _).mono ?_
      rintro e2 w2 ⟨rfl, hx2⟩
      have HX2 := Lib.hid (HX1.out.trans hx2)
      clear hx2
      go_wp2
      go_ret
      exact ⟨by simp, HX2.out⟩
/-- What is farther than the statements look. -/
def farB (n : Int) : Bool := decide (1000000 < n) || decide (n < -1000000)
theorem law_far (n : Int) (w : World) : Calls Try.prog 38 #[.int .i64 n] w fun e w' => e = .returned (.bool (farB n)) ∧ Ext w w' := by
  unfold farB
  go_enter Try.func38, Try.ntmps38
  cases h1 : decide (1000000 < n)
  all_goals
    go_wp2
    go_ret
    exact ⟨rfl, Ext.refl w⟩
def greatB (b : Brd) : Bool := decide (10 < b.rings.length) || (decide (25 < b.lines.length) || (decide (25 < b.nums.length) || (farB b.eye || (farB b.bull || (farB b.wire || (b.rings.any (fun r => farB r.outer) || b.lines.any (fun p => farB p.x || farB p.y)))))))
theorem any_take {α : Type} (q : α → Bool) (l : List α) {k : Nat} (h : k < l.length) (hp : (l.take k).any q = false) : (l.take (k + 1)).any q = q l[k] := by
  rw [List.take_succ_eq_append_getElem h, List.any_append, hp]; simp
theorem any_hit {α : Type} (q : α → Bool) (l : List α) {k : Nat} (h : k < l.length) (hq : q l[k] = true) : l.any q = true := List.any_eq_true.2 ⟨_, List.getElem_mem h, hq⟩
set_option maxHeartbeats 4000000 in
theorem law_great (v : BrdV) (b : Brd) (w : World) (h : BrdAt w v b) (hs : b.rings.length ≤ maxLen ∧ b.lines.length ≤ maxLen ∧ b.nums.length ≤ maxLen) :
    Calls Try.prog 10 #[.agg (v.cells b)] w fun e w' => e = .returned (.bool (greatB b)) ∧ Ext w w' := by
  have HR := Lib.hid h.rings
  have HL := Lib.hid h.lines
  have HF := Lib.hid law_far
  unfold maxLen at hs
  obtain ⟨hs1, hs2, hs3⟩ := hs
  obtain ⟨g, hg⟩ : ∃ g, greatB b = g := ⟨_, rfl⟩
  have HG := Lib.hid hg
  rw [hg]
  unfold greatB at HG
  obtain ⟨eye, bull, rings, lines, nums, wire⟩ := b
  obtain ⟨ra, la, na, rc, lc, nc⟩ := v
  unfold BrdV.cells
  simp only at hs1 hs2 hs3 HR HL HG ⊢
  clear h hg
  have e0 : decide (10 < rings.length) = decide ((10 : Int) < (rings.length : Int)) := decide_eq_decide.2 (by omega)
  have e1 : decide (25 < lines.length) = decide ((25 : Int) < (lines.length : Int)) := decide_eq_decide.2 (by omega)
  have e2 : decide (25 < nums.length) = decide ((25 : Int) < (nums.length : Int)) := decide_eq_decide.2 (by omega)
  rw [e0, e1, e2] at HG
  clear e0 e1 e2
  go_enter Try.func10, Try.ntmps10
  cases h0 : decide ((10 : Int) < (rings.length : Int))
  case true =>
    obtain rfl : g = true := by rw [← HG.out]; simp only [h0, Bool.true_or]
    go_wp2_with fail
    go_ret
    exact ⟨rfl, (Ext.refl w).alloc _⟩
  case false =>
  cases h1 : decide ((25 : Int) < (lines.length : Int))
  case true =>
    obtain rfl : g = true := by rw [← HG.out]; simp only [h0, h1, Bool.true_or, Bool.false_or]
    go_wp2_with fail
    go_ret
    exact ⟨rfl, (Ext.refl w).alloc _⟩
  case false =>
  cases h2 : decide ((25 : Int) < (nums.length : Int))
  case true =>
    obtain rfl : g = true := by rw [← HG.out]; simp only [h0, h1, h2, Bool.true_or, Bool.false_or]
    go_wp2_with fail
    go_ret
    exact ⟨rfl, (Ext.refl w).alloc _⟩
  case false =>
  have HB0 : Hid (Blk (w.alloc (.cells #[.int .i64 eye, .int .i64 bull, .slice ra rings.length rc, .slice la lines.length lc, .slice na nums.length nc, .int .i64 wire] 26)) w.heap.size #[.int .i64 eye, .int .i64 bull, .slice ra rings.length rc, .slice la lines.length lc, .slice na nums.length nc, .int .i64 wire]) := Lib.hid (Blk.new _ _ _)
  have HX0 : Hid (Ext w (w.alloc (.cells #[.int .i64 eye, .int .i64 bull, .slice ra rings.length rc, .slice la lines.length lc, .slice na nums.length nc, .int .i64 wire] 26))) := Lib.hid ((Ext.refl w).alloc _)
  go_wp2_with fail
  refine (HF.out eye _).mono ?_
  rintro e w1 ⟨rfl, hx1⟩
  have HB1 := Lib.hid (HB0.out.ext hx1)
  have HX1 := Lib.hid (HX0.out.trans hx1)
  clear hx1
  have m0 := HB1.out.cell 0 (v := .int .i64 eye) rfl
  have m1 := HB1.out.cell 1 (v := .int .i64 bull) rfl
  have m2 := HB1.out.cell 2 (v := .slice ra rings.length rc) rfl
  have m3 := HB1.out.cell 3 (v := .slice la lines.length lc) rfl
  have m4 := HB1.out.cell 4 (v := .slice na nums.length nc) rfl
  have m5 := HB1.out.cell 5 (v := .int .i64 wire) rfl
  have ml := HB1.out.lt
  cases f0 : farB eye
  case true =>
    obtain rfl : g = true := by rw [← HG.out]; simp only [h0, h1, h2, f0, Bool.true_or, Bool.false_or]
    go_wp2_with fail
    go_ret
    exact ⟨rfl, HX1.out⟩
  case false =>
  go_wp2_with fail
  refine (HF.out bull _).mono ?_
  rintro e w2 ⟨rfl, hx2⟩
  have HB2 := Lib.hid (HB1.out.ext hx2)
  have HX2 := Lib.hid (HX1.out.trans hx2)
  clear hx2
  clear m0 m1 m2 m3 m4 m5 ml
  have m0 := HB2.out.cell 0 (v := .int .i64 eye) rfl
  have m1 := HB2.out.cell 1 (v := .int .i64 bull) rfl
  have m2 := HB2.out.cell 2 (v := .slice ra rings.length rc) rfl
  have m3 := HB2.out.cell 3 (v := .slice la lines.length lc) rfl
  have m4 := HB2.out.cell 4 (v := .slice na nums.length nc) rfl
  have m5 := HB2.out.cell 5 (v := .int .i64 wire) rfl
  have ml := HB2.out.lt
  cases f1 : farB bull
  case true =>
    obtain rfl : g = true := by rw [← HG.out]; simp only [h0, h1, h2, f0, f1, Bool.true_or, Bool.false_or]
    go_wp2_with fail
    go_ret
    exact ⟨rfl, HX2.out⟩
  case false =>
  go_wp2_with fail
  refine (HF.out wire _).mono ?_
  rintro e w3 ⟨rfl, hx3⟩
  have HB3 := Lib.hid (HB2.out.ext hx3)
  have HX3 := Lib.hid (HX2.out.trans hx3)
  clear hx3
  clear m0 m1 m2 m3 m4 m5 ml
  have m0 := HB3.out.cell 0 (v := .int .i64 eye) rfl
  have m1 := HB3.out.cell 1 (v := .int .i64 bull) rfl
  have m2 := HB3.out.cell 2 (v := .slice ra rings.length rc) rfl
  have m3 := HB3.out.cell 3 (v := .slice la lines.length lc) rfl
  have m4 := HB3.out.cell 4 (v := .slice na nums.length nc) rfl
  have m5 := HB3.out.cell 5 (v := .int .i64 wire) rfl
  have ml := HB3.out.lt
  cases f2 : farB wire
  case true =>
    obtain rfl : g = true := by rw [← HG.out]; simp only [h0, h1, h2, f0, f1, f2, Bool.true_or, Bool.false_or]
    go_wp2_with fail
    go_ret
    exact ⟨rfl, HX3.out⟩
  case false =>
  have HG2 : Hid ((rings.any (fun r => farB r.outer) || lines.any (fun p => farB p.x || farB p.y)) = g) := Lib.hid (by rw [← HG.out]; simp only [h0, h1, h2, f0, f1, f2, Bool.false_or])
  clear h0 h1 h2 f0 f1 f2
  go_wp2_with fail
  go_loopw [4] (fun i wr => ∃ k : Nat, k ≤ rings.length ∧ i = .int .i64 k ∧ (rings.take k).any (fun r => farB r.outer) = false ∧ Ext w3 wr) (fun i _ => rings.length - (intOf i).toNat)
  case atStart => exact ⟨0, Nat.zero_le _, rfl, rfl, Ext.refl w3⟩
  case round =>
    obtain ⟨k, hk, rfl, hno, hx⟩ := hrel
    have HNO := Lib.hid hno
    have HBr := Lib.hid (HB3.out.ext hx)
    have HXr := Lib.hid (HX3.out.trans hx)
    have HX3r := Lib.hid hx
    have hRr := HR.out.ext HXr.out
    clear m0 m1 m2 m3 m4 m5 ml
    have m0 := HBr.out.cell 0 (v := .int .i64 eye) rfl
    have m1 := HBr.out.cell 1 (v := .int .i64 bull) rfl
    have m2 := HBr.out.cell 2 (v := .slice ra rings.length rc) rfl
    have m3 := HBr.out.cell 3 (v := .slice la lines.length lc) rfl
    have m4 := HBr.out.cell 4 (v := .slice na nums.length nc) rfl
    have m5 := HBr.out.cell 5 (v := .int .i64 wire) rfl
    have ml := HBr.out.lt
    clear hno hx
    by_cases hlt : k < rings.length
    · obtain ⟨b, o, e, x0, x1⟩ := hRr k hlt
      have xl := lt_of_cell x0
      simp only at xl
      subst e
      have HT := Lib.hid (any_take (fun r => farB r.outer) rings hlt HNO.out)
      have HH := Lib.hid (any_hit (fun r => farB r.outer) rings hlt)
      have HFF := Lib.hid (HF.out rings[k].outer)
      generalize rings[k].outer = z at *
      generalize farB z = q at *
      clear hRr
      go_wp2_with fail
      refine (HFF.out _).mono ?_
      rintro e w5 ⟨rfl, hx5⟩
      have HX5 := Lib.hid hx5
      clear hx5
      cases q
      case true =>
        obtain rfl : g = true := by rw [← HG2.out, HH.out rfl]; rfl
        go_wp2_with fail
        go_ret
        exact ⟨rfl, HXr.out.trans HX5.out⟩
      case false =>
        go_wp2_with fail
        go_roundw
        case rel => exact ⟨k + 1, by omega, by go_num, HT.out, HX3r.out.trans HX5.out⟩
        case measure => simp [intOf]; omega
    · obtain rfl : k = rings.length := by omega
      have HG3 : Hid (lines.any (fun p => farB p.x || farB p.y) = g) := Lib.hid (by
        have h1 := HNO.out
        rw [List.take_of_length_le (Nat.le_refl _)] at h1
        rw [← HG2.out, h1, Bool.false_or])
      obtain ⟨W, hW⟩ : ∃ x, wr = x := ⟨_, rfl⟩
      rw [hW] at HBr HXr hRr m0 m1 m2 m3 m4 m5 ml ⊢
      clear hRr HX3r hW
      go_wp2_with fail
      go_loopw [5] (fun i wr => ∃ k : Nat, k ≤ lines.length ∧ i = .int .i64 k ∧ (lines.take k).any (fun p => farB p.x || farB p.y) = false ∧ Ext W wr) (fun i _ => lines.length - (intOf i).toNat)
      case atStart => exact ⟨0, Nat.zero_le _, rfl, rfl, Ext.refl W⟩
      case round =>
        obtain ⟨k, hk, rfl, hno, hx⟩ := hrel
        have HNO2 := Lib.hid hno
        have HB5 := Lib.hid (HBr.out.ext hx)
        have HX5 := Lib.hid (HXr.out.trans hx)
        have HX6 := Lib.hid hx
        have hLr := HL.out.ext HX5.out
        clear m0 m1 m2 m3 m4 m5 ml
        have m0 := HB5.out.cell 0 (v := .int .i64 eye) rfl
        have m1 := HB5.out.cell 1 (v := .int .i64 bull) rfl
        have m2 := HB5.out.cell 2 (v := .slice ra rings.length rc) rfl
        have m3 := HB5.out.cell 3 (v := .slice la lines.length lc) rfl
        have m4 := HB5.out.cell 4 (v := .slice na nums.length nc) rfl
        have m5 := HB5.out.cell 5 (v := .int .i64 wire) rfl
        have ml := HB5.out.lt
        clear hno hx
        by_cases hlt : k < lines.length
        · obtain ⟨b, o, e, x0, x1⟩ := hLr k hlt
          have xl := lt_of_cell x0
          simp only at xl
          subst e
          have HT := Lib.hid (any_take (fun p => farB p.x || farB p.y) lines hlt HNO2.out)
          have HH := Lib.hid (any_hit (fun p => farB p.x || farB p.y) lines hlt)
          have HFX := Lib.hid (HF.out lines[k].x)
          have HFY := Lib.hid (HF.out lines[k].y)
          generalize lines[k].x = px at *
          generalize lines[k].y = py at *
          generalize farB px = q at *
          generalize farB py = r at *
          clear hLr
          go_wp2_with fail
          refine (HFX.out _).mono ?_
          rintro e w7 ⟨rfl, hx7⟩
          have HX7 := Lib.hid hx7
          have HB7 := Lib.hid (HB5.out.ext hx7)
          replace x0 := hx7.cell x0
          replace x1 := hx7.cell x1
          have xl := lt_of_cell x0
          simp only at xl
          clear hx7 m0 m1 m2 m3 m4 m5 ml
          have m0 := HB7.out.cell 0 (v := .int .i64 eye) rfl
          have m1 := HB7.out.cell 1 (v := .int .i64 bull) rfl
          have m2 := HB7.out.cell 2 (v := .slice ra rings.length rc) rfl
          have m3 := HB7.out.cell 3 (v := .slice (some ⟨b, o, none⟩) lines.length lc) rfl
          have m4 := HB7.out.cell 4 (v := .slice na nums.length nc) rfl
          have m5 := HB7.out.cell 5 (v := .int .i64 wire) rfl
          have ml := HB7.out.lt
          cases q
          case true =>
            obtain rfl : g = true := by rw [← HG3.out, HH.out rfl]
            go_wp2_with fail
            go_ret
            exact ⟨rfl, HX5.out.trans HX7.out⟩
          case false =>
            go_wp2_with fail
            refine (HFY.out _).mono ?_
            rintro e w8 ⟨rfl, hx8⟩
            have HX8 := Lib.hid hx8
            clear hx8
            cases r
            case true =>
              obtain rfl : g = true := by rw [← HG3.out, HH.out rfl]
              go_wp2_with fail
              go_ret
              exact ⟨rfl, HX5.out.trans (HX7.out.trans HX8.out)⟩
            case false =>
              go_wp2_with fail
              go_roundw
              case rel => exact ⟨k + 1, by omega, by go_num, HT.out, HX6.out.trans (HX7.out.trans HX8.out)⟩
              case measure => simp [intOf]; omega
        · obtain rfl : k = lines.length := by omega
          obtain rfl : g = false := by
            have h1 := HNO2.out
            rw [List.take_of_length_le (Nat.le_refl _)] at h1
            rw [← HG3.out, h1]
          go_wp2_with fail
          go_ret
          exact ⟨rfl, HX5.out⟩
end Go.Proofs.Ytlkbbcfbnbnagaa
namespace Go.Proofs.Ytlkbbcfbnbnagaa
open Go.RowKit Go.BigFrame
attribute [local go_sem] Later.cell Later.frozen
theorem cnt_succ (q : Nat → Bool) (k : Nat) : cntTo q (k + 1) = cntTo q k + (if q k = true then 1 else 0) := rfl
theorem cnt_le (q : Nat → Bool) (k : Nat) : cntTo q k ≤ k := by
  induction k with
  | zero => exact Nat.le_refl 0
  | succ k ih => rw [cnt_succ]; split <;> omega
theorem badP_eq (p : Pt) : badP p = (!ptB p || (p.x == 0 && p.y == 0)) := rfl
theorem ptAt_eq (l : List Pt) {i : Nat} (h : i < l.length) : ptAt l i = l[i] := by
  show List.getD _ _ _ = _
  rw [List.getD_eq_getElem?_getD, List.getElem?_eq_getElem h]; rfl
set_option maxHeartbeats 4000000 in
theorem ref_lines (l : List Pt) (a : Option Addr) (c : Nat) (w : World) (h : PtsAt w a l) (hl : l.length ≤ 1000000) :
    Calls Try.prog 41 #[.slice a l.length c] w fun e w' => e = .returned (.bool (linesR l)) ∧ Ext w w' := by
  have HP := Lib.hid h
  have HPT := Lib.hid ref_point
  obtain ⟨g, hg⟩ : ∃ g, linesR l = g := ⟨_, rfl⟩
  have HG := Lib.hid hg
  rw [hg]
  unfold linesR at HG
  clear h hg
  go_enter Try.func41, Try.ntmps41
  by_cases h3 : 3 ≤ l.length
  case neg =>
    obtain rfl : g = false := by rw [← HG.out, decide_eq_false h3, Bool.false_and]
    have h3' : (l.length : Int) < 3 := by omega
    go_wp2_with fail
    go_ret
    exact ⟨rfl, Ext.refl w⟩
  have HG1 : Hid ((!l.any badP && ((List.range l.length).all (linkR l) && decide (cntTo (inR l (ptAt l 0)) l.length = 1))) = g) := Lib.hid (by rw [← HG.out, decide_eq_true h3, Bool.true_and])
  have h3' : ¬ ((l.length : Int) < 3) := by omega
  clear HG
  go_wp2_with fail
  go_loopw [5] (fun i wr => ∃ k : Nat, k ≤ l.length ∧ i = .int .i64 k ∧ (l.take k).any badP = false ∧ Ext w wr) (fun i _ => l.length - (intOf i).toNat)
  case atStart => exact ⟨0, Nat.zero_le _, rfl, rfl, Ext.refl w⟩
  case round =>
    obtain ⟨k, hk, rfl, hno, hx⟩ := hrel
    have HNO := Lib.hid hno
    have HX := Lib.hid hx
    have hP := HP.out.ext hx
    clear hno hx
    by_cases hlt : k < l.length
    · obtain ⟨b, o, e, x0, x1⟩ := hP k hlt
      have xl := lt_of_cell x0
      simp only at xl
      subst e
      have HT := Lib.hid (any_take badP l hlt HNO.out)
      have HH := Lib.hid (any_hit badP l hlt)
      obtain ⟨⟨px, py⟩, hp⟩ : ∃ p, l[k] = p := ⟨_, rfl⟩
      rw [hp] at x0 x1 HT HH
      rw [badP_eq] at HT HH
      have HPP := Lib.hid (HPT.out ⟨px, py⟩ wr)
      unfold Pt.agg at HPP
      simp only at x0 x1
      simp only [] at HT HH HPP
      generalize ptB ⟨px, py⟩ = q at *
      clear hP hp
      go_wp2_with fail
      refine HPP.out.mono ?_
      rintro e w5 ⟨rfl, hx5⟩
      have HX5 := Lib.hid (HX.out.trans hx5)
      replace x0 := hx5.cell x0
      replace x1 := hx5.cell x1
      have xl := lt_of_cell x0
      simp only at xl
      clear hx5
      have hbad : ∀ r : Bool, (!q || (px == 0 && py == 0)) = r → r = true → g = false := fun r h1 h2 => by
        rw [← HG1.out, HH.out (by rw [← h2, ← h1])]; rfl
      have HBD := Lib.hid hbad
      clear hbad
      cases q
      case false =>
        obtain rfl := HBD.out true rfl rfl
        go_wp2_with fail
        go_ret
        exact ⟨rfl, HX5.out⟩
      case true =>
      cases hq1 : (px == 0)
      case false =>
        have HT2 : Hid ((l.take (k + 1)).any badP = false) := Lib.hid (by rw [HT.out]; simp only [hq1]; rfl)
        go_wp2_with fail
        go_roundw
        case rel => exact ⟨k + 1, by omega, by go_num, HT2.out, HX5.out⟩
        case measure => simp [intOf]; omega
      case true =>
      cases hq2 : (py == 0)
      case false =>
        have HT2 : Hid ((l.take (k + 1)).any badP = false) := Lib.hid (by rw [HT.out]; simp only [hq1, hq2]; rfl)
        go_wp2_with fail
        go_roundw
        case rel => exact ⟨k + 1, by omega, by go_num, HT2.out, HX5.out⟩
        case measure => simp [intOf]; omega
      case true =>
        obtain rfl := HBD.out true (by simp only [hq1, hq2]; rfl) rfl
        go_wp2_with fail
        go_ret
        exact ⟨rfl, HX5.out⟩
    · obtain rfl : k = l.length := by omega
      have hnb := HNO.out
      rw [List.take_of_length_le (Nat.le_refl _)] at hnb
      have HNB := Lib.hid hnb
      have HG2 : Hid (((List.range l.length).all (linkR l) && decide (cntTo (inR l (ptAt l 0)) l.length = 1)) = g) := Lib.hid (by rw [← HG1.out, HNB.out]; rfl)
      have HOK : Hid (∀ i, i < l.length → (ptAt l i).ok) := Lib.hid (fun i hi => by
        have h1 := List.any_eq_false.1 HNB.out (ptAt l i) (by rw [ptAt_eq l hi]; exact List.getElem_mem hi)
        exact ok_of_bad (by simpa using h1))
      obtain ⟨W, hW⟩ : ∃ x, wr = x := ⟨_, rfl⟩
      rw [hW] at HX hP ⊢
      have HPW := Lib.hid hP
      clear hP hW hnb
      go_wp2_with fail
      go_loopw [4, 6] (fun s i wr => ∃ k : Nat, k ≤ l.length ∧ i = .int .i64 k ∧ s = .int .i64 (cntTo (inR l (ptAt l 0)) k) ∧ (∀ j, j < k → linkR l j = true) ∧ Ext W wr) (fun _ i _ => l.length - (intOf i).toNat)
      case atStart => exact ⟨0, Nat.zero_le _, rfl, rfl, fun j h => absurd h (Nat.not_lt_zero j), Ext.refl W⟩
      case round =>
        obtain ⟨k, hk, rfl, rfl, hln, hx⟩ := hrel
        have HLN := Lib.hid hln
        have HXr := Lib.hid hx
        clear hln hx
        by_cases hlt : k < l.length
        · obtain ⟨q, hq⟩ : ∃ q : Nat, (k + 1) % l.length = q := ⟨_, rfl⟩
          have hql : q < l.length := by rw [← hq]; exact Nat.mod_lt _ (by omega)
          have hqm : ((k : Int) + 1).tmod (l.length : Int) = (q : Int) := by
            rw [show ((k : Int) + 1) = ((k + 1 : Nat) : Int) by omega, ← hq]; rfl
          have hlz : ¬ ((l.length : Int) = 0) := by omega
          have hP := HPW.out.ext HXr.out
          obtain ⟨b, o, e, x0, x1⟩ := hP k hlt
          obtain ⟨_, _, e', y0, y1⟩ := hP q hql
          obtain ⟨_, _, e'', z0, z1⟩ := hP 0 (by omega)
          subst e
          cases e'
          cases e''
          have hk1 := HOK.out k hlt
          have hq1 := HOK.out q hql
          have h01 := HOK.out 0 (by omega)
          rw [ptAt_eq l hlt] at hk1
          rw [ptAt_eq l hql] at hq1
          rw [ptAt_eq l (by omega : 0 < l.length)] at h01
          have HLK : Hid (linkR l k = decide (crossP l[k] l[q] < 0)) := Lib.hid (by unfold linkR; rw [hq, ptAt_eq l hlt, ptAt_eq l hql])
          have HIN : Hid (inR l (ptAt l 0) k = btwP l[k] l[q] l[0]) := Lib.hid (by unfold inR; rw [hq, ptAt_eq l hlt, ptAt_eq l hql, ptAt_eq l (by omega : 0 < l.length)])
          have HCS := Lib.hid (cnt_succ (inR l (ptAt l 0)) k)
          have hcl := cnt_le (inR l (ptAt l 0)) k
          have HC := Lib.hid (fun W => ref_cross l[k] l[q] W hk1 hq1)
          have HB := Lib.hid (fun W => ref_between l[k] l[q] l[0] W hk1 hq1 h01)
          generalize l[k] = pk at *
          generalize l[q] = pq at *
          generalize l[0] = p0 at *
          generalize crossP pk pq = cr at *
          generalize btwP pk pq p0 = bt at *
          generalize cntTo (inR l (ptAt l 0)) k = cn at *
          obtain ⟨kx, ky⟩ := pk
          obtain ⟨qx, qy⟩ := pq
          obtain ⟨zx, zy⟩ := p0
          unfold Pt.agg at HC HB
          simp only [Nat.zero_mul, Nat.add_zero] at x0 x1 y0 y1 z0 z1
          have xl := lt_of_cell x0
          simp only at xl
          clear hP hq hk1 hq1 h01
          go_upto_region 13 with fail
          obtain ⟨w6, hw6⟩ : ∃ y, y = wr.alloc (.cells #[.int .i64 qx, .int .i64 qy] 53) := ⟨_, rfl⟩
          rw [← hw6]
          have hx6 : Ext wr w6 := by rw [hw6]; exact (Ext.refl wr).alloc _
          have HB6 : Hid (Blk w6 wr.heap.size #[.int .i64 qx, .int .i64 qy]) := Lib.hid (by rw [hw6]; exact Blk.new _ _ _)
          have HX6 := Lib.hid (HXr.out.trans hx6)
          replace x0 := hx6.cell x0
          replace x1 := hx6.cell x1
          replace z0 := hx6.cell z0
          replace z1 := hx6.cell z1
          have xl := lt_of_cell x0
          simp only at xl
          have n0 := HB6.out.cell 0 (v := .int .i64 qx) rfl
          have n1 := HB6.out.cell 1 (v := .int .i64 qy) rfl
          have nl := HB6.out.lt
          generalize wr.heap.size = kn at *
          clear hw6 hx6 y0 y1
          refine wp_region_later (by kernel_rfl) (by kernel_rfl) ?_
          repeat (go_big_quiet_step (refine Calls.later (HC.out _)))
          refine wpQuiet_nil ?_
          intro w7 hw7
          obtain ⟨⟨w7, hx7⟩, rfl⟩ := hw7
          have HX7 := Lib.hid (HX6.out.trans hx7)
          replace x0 := hx7.cell x0
          replace x1 := hx7.cell x1
          replace z0 := hx7.cell z0
          replace z1 := hx7.cell z1
          replace n0 := hx7.cell n0
          replace n1 := hx7.cell n1
          have xl := lt_of_cell x0
          have nl := lt_of_cell n0
          simp only at xl nl
          clear hx7
          cases hd : decide (0 ≤ cr)
          case true =>
            obtain rfl : g = false := by
              rw [← HG2.out]
              have h1 : linkR l k = false := by rw [HLK.out]; exact decide_eq_false (by have := of_decide_eq_true hd; omega)
              have h2 : (List.range l.length).all (linkR l) = false := List.all_eq_false.2 ⟨k, List.mem_range.2 hlt, by simp [h1]⟩
              rw [h2, Bool.false_and]
            go_wp2
            go_ret
            exact ⟨rfl, HX.out.trans HX7.out⟩
          case false =>
            have HL1 : Hid (∀ j, j < k + 1 → linkR l j = true) := Lib.hid (fun j hj => by
              rcases Nat.lt_or_ge j k with h | h
              · exact HLN.out j h
              · obtain rfl : j = k := by omega
                rw [HLK.out]
                exact decide_eq_true (by have := of_decide_eq_false hd; omega))
            go_upto_region 15 with fail
            refine wp_region_later (by kernel_rfl) (by kernel_rfl) ?_
            repeat (go_big_quiet_step (refine Calls.later (HB.out _)))
            refine wpQuiet_nil ?_
            intro w8 hw8
            obtain ⟨⟨w8, hx8⟩, rfl⟩ := hw8
            have HX8 := Lib.hid (HX7.out.trans hx8)
            clear hx8
            rw [HIN.out] at HCS
            cases bt
            case false =>
              rw [if_neg (by simp)] at HCS
              go_wp2
              go_roundw
              case rel => exact ⟨k + 1, by omega, by go_num, by rw [HCS.out]; rfl, HL1.out, HX8.out⟩
              case measure => simp [intOf]; omega
            case true =>
              rw [if_pos rfl] at HCS
              go_wp2
              go_roundw
              case rel => exact ⟨k + 1, by omega, by go_num, by rw [HCS.out]; go_num, HL1.out, HX8.out⟩
              case measure => simp [intOf]; omega
        · obtain rfl : k = l.length := by omega
          have HG3 : Hid (decide (((cntTo (inR l (ptAt l 0)) l.length : Nat) : Int) = 1) = g) := Lib.hid (by
            rw [← HG2.out]
            have h2 : (List.range l.length).all (linkR l) = true := List.all_eq_true.2 (fun j hj => HLN.out j (List.mem_range.1 hj))
            rw [h2, Bool.true_and]
            exact decide_eq_decide.2 (by omega))
          generalize cntTo (inR l (ptAt l 0)) l.length = cn at *
          have HXe := Lib.hid (HX.out.trans HXr.out)
          have hg : (((cn : Nat) : Int) == 1) = g := HG3.out
          cases g
          all_goals
            go_wp2
            go_ret
            exact ⟨rfl, HXe.out⟩
end Go.Proofs.Ytlkbbcfbnbnagaa
namespace Go.Proofs.Ytlkbbcfbnbnagaa
open Go.RowKit Go.BigFrame
attribute [local go_sem] Later.cell Later.frozen
def radTo (b : Brd) (k : Nat) : List Int := b.eye :: b.bull :: (b.rings.take k).map (·.outer)
theorem radTo_succ (b : Brd) {k : Nat} (h : k < b.rings.length) : radTo b (k + 1) = radTo b k ++ [b.rings[k].outer] := by
  unfold radTo
  rw [List.take_succ_eq_append_getElem h, List.map_append]; rfl
theorem radTo_all (b : Brd) : radTo b b.rings.length = b.radii := by
  unfold radTo Brd.radii
  rw [List.take_of_length_le (Nat.le_refl _)]
theorem radTo_len (b : Brd) {k : Nat} (h : k ≤ b.rings.length) : (radTo b k).length = k + 2 := by unfold radTo; simp; omega
set_option maxHeartbeats 2000000 in
theorem ref_radii (v : BrdV) (b : Brd) (w : World) (h : BrdAt w v b) (hs : b.rings.length ≤ 1000000) :
    Calls Try.prog 42 #[.agg (v.cells b)] w fun e w' => ∃ a c, e = .returned (.slice a b.radii.length c) ∧ RdI S0 w' (.slice a b.radii.length c) b.radii ∧ Ext w w' := by
  have HR := Lib.hid h.rings
  have HT0 : Hid (radTo b 0 = [b.eye, b.bull]) := Lib.hid rfl
  have HTS := Lib.hid (fun k (h : k < b.rings.length) => radTo_succ b h)
  have HTL := Lib.hid (fun k (h : k ≤ b.rings.length) => radTo_len b h)
  have HTA := Lib.hid (radTo_all b)
  generalize b.radii = rr at *
  generalize radTo b = rt at *
  obtain ⟨eye, bull, rings, lines, nums, wire⟩ := b
  obtain ⟨ra, la, na, rc, lc, nc⟩ := v
  unfold BrdV.cells
  simp only at HR HT0 HTS HTL HTA hs ⊢
  clear h
  go_enter Try.func42, Try.ntmps42
  go_upto_block 0 with fail
  obtain ⟨w1, hw1⟩ : ∃ x, x = w.alloc (.cells #[.int .i64 eye, .int .i64 bull, .slice ra rings.length rc, .slice la lines.length lc, .slice na nums.length nc, .int .i64 wire] 26) := ⟨_, rfl⟩
  rw [← hw1]
  have hs1 : w1.heap.size = w.heap.size + 1 := by rw [hw1]; simp
  have HB1 : Hid (Blk w1 w.heap.size #[.int .i64 eye, .int .i64 bull, .slice ra rings.length rc, .slice la lines.length lc, .slice na nums.length nc, .int .i64 wire]) := Lib.hid (by rw [hw1]; exact Blk.new _ _ _)
  have HX1 : Hid (Ext w w1) := Lib.hid (by rw [hw1]; exact (Ext.refl w).alloc _)
  have HO0 : Hid (OwnI (w1.alloc (.cells #[.int .i64 eye, .int .i64 bull] 3)) w1.heap.size (.slice (some ⟨w.heap.size + 1, 0, none⟩) 2 2) (rt 0)) := Lib.hid (by
    rw [HT0.out, ← hs1]
    exact own_box (w := w1) (base := w1.heap.size) (size := 1) (m := 2) (e := 3) (cs := #[.int .i64 eye, .int .i64 bull]) (Nat.le_refl _) (by decide) rfl)
  have HS1 := Lib.hid hs1
  obtain ⟨w2, hw2⟩ : ∃ x, x = w1.alloc (.cells #[.int .i64 eye, .int .i64 bull] 3) := ⟨_, rfl⟩
  rw [← hw2] at HO0 ⊢
  have HX2 : Hid (Ext w1 w2) := Lib.hid (by rw [hw2]; exact (Ext.refl w1).alloc _)
  clear hw1 hw2 hs1
  go_wp2
  go_loopw [3, 4] (fun v i wr => ∃ k : Nat, k ≤ rings.length ∧ i = .int .i64 k ∧ OwnI wr w1.heap.size v (rt k) ∧ Ext w1 wr) (fun _ i _ => rings.length - (intOf i).toNat)
  case atStart => exact ⟨0, Nat.zero_le _, rfl, HO0.out, HX2.out⟩
  case round =>
    obtain ⟨k, hk, rfl, ho, hx⟩ := hrel
    obtain ⟨va, vc, rfl⟩ := own_shape ho
    have HO := Lib.hid ho
    have HX := Lib.hid hx
    have hb := HB1.out.ext hx
    have m2 := hb.cell 2 (v := .slice ra rings.length rc) rfl
    have ml := hb.lt
    clear ho hx hb
    by_cases hlt : k < rings.length
    · obtain ⟨b, o, e, x0, x1⟩ := (HR.out.ext (HX1.out.trans HX.out)) k hlt
      have xl := lt_of_cell x0
      simp only at xl
      subst e
      have HSU := Lib.hid (HTS.out k hlt)
      have HLN := Lib.hid (HTL.out k hk)
      generalize rings[k].outer = z at *
      have hbs : w1.heap.size ≤ wr.heap.size := HX.out.size
      clear x1
      go_wp2_with (at_builtin; refine wp_append_i rfl _ _ rfl w1.heap.size _ (rt k) rfl (HO.out.ext ((Ext.refl wr).alloc _)) ⟨wr.heap.size, 0, none⟩ 1 z rfl (Blk.cell (Blk.new _ _ _) 0 rfl) (by rw [HLN.out]; omega) (by simp; omega) ?_)
      intro v' w4 ho4 hg4
      obtain ⟨av, ac, rfl⟩ := own_shape ho4
      have HO4 := Lib.hid ho4
      have hoA := HO.out.ext ((Ext.refl wr).alloc (.cells #[.int .i64 z] 3))
      have HX4 := Lib.hid (Chg.to_ext (HX.out.alloc (.cells #[.int .i64 z] 3)) (grown_chg hg4) (fun j e => (own_lt hoA j e).1))
      clear ho4 hg4 hoA
      go_wp2
      go_roundw
      case rel => exact ⟨k + 1, by omega, by go_num, by rw [HSU.out]; exact HO4.out, HX4.out⟩
      case measure => simp [intOf]; omega
    · obtain rfl : k = rings.length := by omega
      have HG := Lib.hid (RdI.of_own (S := S0) HO.out (fun _ _ => id))
      have HXe := Lib.hid (HX1.out.trans HX.out)
      rw [HTA.out] at HG ⊢
      go_wp2
      go_ret
      exact ⟨_, _, rfl, HG.out, HXe.out⟩
end Go.Proofs.Ytlkbbcfbnbnagaa
namespace Go.Proofs.Ytlkbbcfbnbnagaa
open Go.RowKit Go.BigFrame
attribute [local go_sem] Later.cell Later.frozen
theorem radB_iff (wire : Int) : ∀ (l : List Int) (a : Int), radB wire a l = true ↔ ∀ i, (h : i < l.length) → l[i] ≤ 5000 ∧ (a :: l)[i]'(by simp; omega) + 2 * wire + 1 ≤ l[i]
  | [], a => ⟨fun _ i h => absurd h (by simp), fun _ => rfl⟩
  | y :: l, a => by
    show (ins (a + 2 * wire + 1) 5000 [y] && radB wire y l) = true ↔ _
    rw [Bool.and_eq_true, ins_one, radB_iff wire l y]
    constructor
    · rintro ⟨h1, h2⟩ i h
      cases i with
      | zero => exact ⟨h1.2, h1.1⟩
      | succ i => exact h2 i (by simpa using h)
    · intro h
      exact ⟨⟨(h 0 (by simp)).2, (h 0 (by simp)).1⟩, fun i hi => h (i + 1) (by simpa using hi)⟩
structure GoodR (b : Brd) : Prop where
  rg : b.rings.length ≠ 0
  w0 : 0 ≤ b.wire
  w1 : b.wire ≤ 20
  ln : b.nums.length = b.lines.length
  li : linesR b.lines = true
  ey : b.wire < b.eye
  rad : ∀ i, (h : i < b.radii.length) → b.radii[i] ≤ 5000 ∧ ∀ j, i = j + 1 → (hj : j < b.radii.length) → 2 * b.wire < b.radii[i] - b.radii[j]
  fac : ∀ i, (h : i < b.rings.length) → 0 ≤ b.rings[i].factor ∧ b.rings[i].factor ≤ 4
  num : ∀ i, (h : i < b.nums.length) → 1 ≤ b.nums[i] ∧ b.nums[i] ≤ 20
  dup : ∀ i j, j < i → (h : i < b.nums.length) → (hj : j < b.nums.length) → b.nums[j] ≠ b.nums[i]
theorem goodR_iff (b : Brd) : goodB b = true ↔ GoodR b := by
  have hr0 : ∀ h : 0 < b.radii.length, b.radii[0] = b.eye := fun _ => rfl
  unfold goodB ringsB numsB numsTo
  simp only [Bool.and_eq_true, Bool.not_eq_true', decide_eq_true_eq, List.any_eq_false, List.all_eq_true, radB_iff, ← lines_eq]
  constructor
  · rintro ⟨⟨h1, h2, h3, h4⟩, h5, ⟨h6, h7⟩, h8⟩
    have h2 := ins_one.1 h2
    refine ⟨?_, h2.1, h2.2, h8, h5, ?_, fun i h => ⟨(h4 i h).1, fun j e hj => ?_⟩, fun i h => ?_, fun i h => ins_one.1 (h6 _ (List.getElem_mem h)), fun i j hji h hj => ?_⟩
    · intro h
      rw [List.length_eq_zero_iff.1 h] at h1
      cases h1
    · have h0 : 0 < b.radii.length := by unfold Brd.radii; simp
      have := (h4 0 h0).2
      rw [hr0 h0] at this
      simp only [List.getElem_cons_zero] at this
      omega
    · subst e
      have := (h4 (j + 1) h).2
      simp only [List.getElem_cons_succ] at this
      omega
    · have := h3 _ (List.getElem_mem h)
      simp only [Bool.not_eq_false] at this
      exact ins_one.1 this
    · have := List.pairwise_iff_getElem.1 h7 j i hj h hji
      exact this
  · intro H
    refine ⟨⟨?_, ins_one.2 ⟨H.w0, H.w1⟩, fun x hx => ?_, fun i h => ⟨(H.rad i h).1, ?_⟩⟩, H.li, ⟨fun x hx => ?_, ?_⟩, H.ln⟩
    · cases hb : b.rings with
      | nil => exact absurd (by rw [hb]; rfl) H.rg
      | cons a l => rfl
    · obtain ⟨i, hi, rfl⟩ := List.getElem_of_mem hx
      have := ins_one.2 (H.fac i hi)
      simp [this]
    · cases i with
      | zero =>
        rw [hr0 h]
        simp only [List.getElem_cons_zero]
        have := H.ey
        omega
      | succ j =>
        simp only [List.getElem_cons_succ]
        have := (H.rad (j + 1) h).2 j rfl (by omega)
        omega
    · obtain ⟨i, hi, rfl⟩ := List.getElem_of_mem hx
      exact ins_one.2 (H.num i hi)
    · exact List.pairwise_iff_getElem.2 fun j i hj hi hji => H.dup i j hji hi hj
theorem err_of {b : Brd} (hl : longB b = false) : (GoodR b → errB b = 0) ∧ (¬ GoodR b → errB b = 2) := by
  unfold errB
  rw [hl]
  refine ⟨fun h => ?_, fun h => ?_⟩
  · rw [if_neg (by simp), if_pos ((goodR_iff b).2 h)]
  · rw [if_neg (by simp), if_neg (fun hh => h ((goodR_iff b).1 hh))]
/-- What the statements look at is small. -/
structure GrtB (b : Brd) : Prop where
  eye : -1000000 ≤ b.eye ∧ b.eye ≤ 1000000
  bull : -1000000 ≤ b.bull ∧ b.bull ≤ 1000000
  wire : -1000000 ≤ b.wire ∧ b.wire ≤ 1000000
  out : ∀ r ∈ b.rings, -1000000 ≤ r.outer ∧ r.outer ≤ 1000000
theorem grt_of {b : Brd} (h : greatB b = false) : GrtB b := by
  unfold greatB farB at h
  simp only [Bool.or_eq_false_iff, decide_eq_false_iff_not, List.any_eq_false, Bool.or_eq_true, decide_eq_true_eq, not_or] at h
  obtain ⟨-, -, -, h1, h2, h3, h4, -⟩ := h
  exact ⟨by omega, by omega, by omega, fun r hr => by have := h4 r hr; omega⟩
theorem GrtB.rad {b : Brd} (h : GrtB b) : ∀ x ∈ b.radii, -1000000 ≤ x ∧ x ≤ 1000000 := by
  intro x hx
  unfold Brd.radii at hx
  rcases List.mem_cons.1 hx with rfl | hx
  · exact h.eye
  rcases List.mem_cons.1 hx with rfl | hx
  · exact h.bull
  obtain ⟨r, hr, rfl⟩ := List.mem_map.1 hx
  exact h.out r hr
set_option maxRecDepth 100000 in
set_option maxHeartbeats 8000000 in
theorem ref_check (a1 a2 a3 : Option Addr) (a4 a5 a6 : Nat) (b : Brd) (w : World) (h : BrdAt w ⟨a1, a2, a3, a4, a5, a6⟩ b) (hs : SmallB b) (hg : GrtB b) :
    Calls Try.prog 12 #[.agg #[.int .i64 b.eye, .int .i64 b.bull, .slice a1 b.rings.length a4, .slice a2 b.lines.length a5, .slice a3 b.nums.length a6, .int .i64 b.wire]] w fun e w' => e = .returned (.int .i64 (errB b)) ∧ Ext w w' := by
  have HB := Lib.hid h
  have HRL := Lib.hid (fun W (hx : Ext w W) => ref_lines b.lines a2 a5 W (h.lines.ext hx) hs.l)
  have HRR := Lib.hid (fun W (hx : Ext w W) => ref_radii ⟨a1, a2, a3, a4, a5, a6⟩ b W (h.ext hx) hs.r)
  unfold BrdV.cells at HRR
  have HGR := Lib.hid hg.rad
  obtain ⟨hw0, hw1⟩ := hg.wire
  obtain ⟨hs1, hs2, hs3⟩ := hs
  have HLO : Hid (∀ q, decide ((8 : Int) < (b.rings.length : Int)) = q → ∀ r, decide ((20 : Int) < (b.lines.length : Int)) = r → ∀ s, decide ((20 : Int) < (b.nums.length : Int)) = s → longB b = (q || (r || s))) := Lib.hid (fun q h1 r h2 s h3 => by
    unfold longB
    rw [← h1, ← h2, ← h3]
    congr 1
    · exact decide_eq_decide.2 (by omega)
    · congr 1 <;> exact decide_eq_decide.2 (by omega))
  have HLE : Hid (longB b = true → errB b = 5) := Lib.hid (fun h => by unfold errB; rw [if_pos h])
  have HEO := Lib.hid (fun h => err_of (b := b) h)
  obtain ⟨g, hgg⟩ : ∃ g, errB b = g := ⟨_, rfl⟩
  rw [hgg] at HLE HEO ⊢
  clear h hg hgg
  go_enter Try.func12, Try.ntmps12
  cases c0 : decide ((8 : Int) < (b.rings.length : Int))
  case true =>
    obtain rfl : g = 5 := HLE.out (by rw [HLO.out _ c0 _ rfl _ rfl]; rfl)
    go_wp2_with fail
    go_ret
    exact ⟨rfl, (Ext.refl w).alloc _⟩
  case false =>
  cases c1 : decide ((20 : Int) < (b.lines.length : Int))
  case true =>
    obtain rfl : g = 5 := HLE.out (by rw [HLO.out _ c0 _ c1 _ rfl]; rfl)
    go_wp2_with fail
    go_ret
    exact ⟨rfl, (Ext.refl w).alloc _⟩
  case false =>
  cases c2 : decide ((20 : Int) < (b.nums.length : Int))
  case true =>
    obtain rfl : g = 5 := HLE.out (by rw [HLO.out _ c0 _ c1 _ c2]; rfl)
    go_wp2_with fail
    go_ret
    exact ⟨rfl, (Ext.refl w).alloc _⟩
  case false =>
  have HG0 : Hid (GoodR b → g = 0) := Lib.hid (HEO.out (HLO.out _ c0 _ c1 _ c2)).1
  have HG2 : Hid (¬ GoodR b → g = 2) := Lib.hid (HEO.out (HLO.out _ c0 _ c1 _ c2)).2
  cases d0 : ((b.rings.length : Int) == 0)
  case true =>
    obtain rfl : g = 2 := HG2.out (fun h => h.rg (by simpa using d0))
    go_wp2_with fail
    go_ret
    exact ⟨rfl, (Ext.refl w).alloc _⟩
  case false =>
  cases d1 : decide (b.wire < 0)
  case true =>
    obtain rfl : g = 2 := HG2.out (fun h => by have := h.w0; have := of_decide_eq_true d1; omega)
    go_wp2_with fail
    go_ret
    exact ⟨rfl, (Ext.refl w).alloc _⟩
  case false =>
  cases d2 : decide (20 < b.wire)
  case true =>
    obtain rfl : g = 2 := HG2.out (fun h => by have := h.w1; have := of_decide_eq_true d2; omega)
    go_wp2_with fail
    go_ret
    exact ⟨rfl, (Ext.refl w).alloc _⟩
  case false =>
  cases d3 : ((b.nums.length : Int) != (b.lines.length : Int))
  case true =>
    obtain rfl : g = 2 := HG2.out (fun h => by
      have e : (b.nums.length : Int) = (b.lines.length : Int) := by rw [h.ln]
      rw [e] at d3
      simp at d3)
    go_wp2_with fail
    go_ret
    exact ⟨rfl, (Ext.refl w).alloc _⟩
  case false =>
  have k1 : 0 ≤ b.wire := by have := of_decide_eq_false d1; omega
  have k2 : b.wire ≤ 20 := by have := of_decide_eq_false d2; omega
  have k0 : Hid (b.rings.length ≠ 0) := Lib.hid (by have := beq_eq_false_iff_ne.1 d0; omega)
  have k3 : Hid (b.nums.length = b.lines.length) := Lib.hid (by have := bne_eq_false_iff_eq.1 d3; omega)
  go_wp2_with fail
  refine (HRL.out _ ((Ext.refl w).alloc _)).mono ?_
  rintro e w1 ⟨rfl, hx1⟩
  have HX1 := Lib.hid (((Ext.refl w).alloc (.cells #[.int .i64 b.eye, .int .i64 b.bull, .slice a1 b.rings.length a4, .slice a2 b.lines.length a5, .slice a3 b.nums.length a6, .int .i64 b.wire] 26)).trans hx1)
  have HB1 : Hid (Blk w1 w.heap.size #[.int .i64 b.eye, .int .i64 b.bull, .slice a1 b.rings.length a4, .slice a2 b.lines.length a5, .slice a3 b.nums.length a6, .int .i64 b.wire]) := Lib.hid ((Blk.new _ _ _).ext hx1)
  clear hx1 c0 c1 c2 d0 d3
  cases d4 : linesR b.lines
  case false =>
    obtain rfl : g = 2 := HG2.out (fun h => by have := h.li; rw [d4] at this; cases this)
    go_wp2_with fail
    go_ret
    exact ⟨rfl, HX1.out⟩
  case true =>
  have m0 := HB1.out.cell 0 (v := .int .i64 b.eye) rfl
  have m1 := HB1.out.cell 1 (v := .int .i64 b.bull) rfl
  have m2 := HB1.out.cell 2 (v := .slice a1 b.rings.length a4) rfl
  have m3 := HB1.out.cell 3 (v := .slice a2 b.lines.length a5) rfl
  have m4 := HB1.out.cell 4 (v := .slice a3 b.nums.length a6) rfl
  have m5 := HB1.out.cell 5 (v := .int .i64 b.wire) rfl
  have ml := HB1.out.lt
  cases d5 : decide (b.eye ≤ b.wire)
  case true =>
    obtain rfl : g = 2 := HG2.out (fun h => by have := h.ey; have := of_decide_eq_true d5; omega)
    go_wp2_with fail
    go_ret
    exact ⟨rfl, HX1.out⟩
  case false =>
  have k5 : Hid (b.wire < b.eye) := Lib.hid (by have := of_decide_eq_false d5; omega)
  go_wp2_with fail
  refine (HRR.out _ HX1.out).mono ?_
  rintro e w2 ⟨ra, rc, rfl, hr, hx2⟩
  have HB2 := Lib.hid (HB1.out.ext hx2)
  have HX2 := Lib.hid (HX1.out.trans hx2)
  have HR2 := Lib.hid hr
  have hrl : 2 ≤ b.radii.length ∧ b.radii.length ≤ 1000002 := by unfold Brd.radii; simp; omega
  obtain ⟨hrl0, hrl1⟩ := hrl
  obtain ⟨rb, ro, rcc, e, hrc, -⟩ := hr.head (by omega)
  cases e
  have HRC := Lib.hid hrc
  have k4 := Lib.hid d4
  have HGD : Hid (∀ x : (∀ i, (h : i < b.radii.length) → b.radii[i] ≤ 5000 ∧ ∀ j, i = j + 1 → (hj : j < b.radii.length) → 2 * b.wire < b.radii[i] - b.radii[j]), ∀ y : (∀ i, (h : i < b.rings.length) → 0 ≤ b.rings[i].factor ∧ b.rings[i].factor ≤ 4), ∀ z : (∀ i, (h : i < b.nums.length) → 1 ≤ b.nums[i] ∧ b.nums[i] ≤ 20), ∀ t : (∀ i j, j < i → (h : i < b.nums.length) → (hj : j < b.nums.length) → b.nums[j] ≠ b.nums[i]), g = 0) := Lib.hid (fun x y z t => HG0.out ⟨k0.out, k1, k2, k3.out, k4.out, k5.out, x, y, z, t⟩)
  clear hr hx2 m0 m1 m2 m3 m4 m5 ml hrc d1 d2 d4 d5 HRL HRR HLO HLE HEO HG0 k0 k3 k4 k5 HB1 HX1
  go_wp2_with fail
  go_loopw [4] (fun i wr => ∃ k : Nat, k ≤ b.radii.length ∧ i = .int .i64 k ∧ (∀ i, i < k → (h : i < b.radii.length) → b.radii[i] ≤ 5000 ∧ ∀ j, i = j + 1 → (hj : j < b.radii.length) → 2 * b.wire < b.radii[i] - b.radii[j]) ∧ Ext w2 wr) (fun i _ => b.radii.length - (intOf i).toNat)
  case atStart => exact ⟨0, Nat.zero_le _, rfl, fun i h => absurd h (Nat.not_lt_zero i), Ext.refl w2⟩
  case round =>
    obtain ⟨k, hk, rfl, hok, hx⟩ := hrel
    have HOK := Lib.hid hok
    have HX := Lib.hid hx
    have HBr := Lib.hid (HB2.out.ext hx)
    clear hok hx
    have m0 := HBr.out.cell 0 (v := .int .i64 b.eye) rfl
    have m1 := HBr.out.cell 1 (v := .int .i64 b.bull) rfl
    have m2 := HBr.out.cell 2 (v := .slice a1 b.rings.length a4) rfl
    have m3 := HBr.out.cell 3 (v := .slice a2 b.lines.length a5) rfl
    have m4 := HBr.out.cell 4 (v := .slice a3 b.nums.length a6) rfl
    have m5 := HBr.out.cell 5 (v := .int .i64 b.wire) rfl
    have ml := HBr.out.lt
    by_cases hlt : k < b.radii.length
    · obtain ⟨_, _, e, x0⟩ := (HRC.out.ext HX.out) k hlt
      cases e
      have xl := lt_of_cell x0
      simp only at xl
      obtain ⟨z, hz⟩ : ∃ z, b.radii[k] = z := ⟨_, rfl⟩
      have HZ := Lib.hid hz
      have hzb := HGR.out b.radii[k] (List.getElem_mem hlt)
      rw [hz] at x0 hzb
      obtain ⟨hz0, hz1⟩ := hzb
      clear hz
      cases d6 : decide (5000 < z)
      case true =>
        obtain rfl : g = 2 := HG2.out (fun h => by have := (h.rad k hlt).1; rw [HZ.out] at this; have := of_decide_eq_true d6; omega)
        go_upto_region 9 with fail
        refine wp_region_later (by kernel_rfl) (by kernel_rfl) ?_
        repeat (go_big_quiet_step (fail))
        refine wpQuiet_nil ?_
        intro w4 hw4
        obtain ⟨⟨w4, hx4⟩, rfl⟩ := hw4
        have HX4 := Lib.hid (HX.out.trans hx4)
        clear hx4
        go_wp2_with fail
        go_ret
        exact ⟨rfl, HX2.out.trans HX4.out⟩
      case false =>
      cases k with
      | zero =>
        have e0 : ((0 : Nat) : Int) = 0 := rfl
        rw [e0]
        rw [Nat.add_zero] at x0
        clear e0
        have HOK1 : Hid (∀ i, i < 0 + 1 → (h : i < b.radii.length) → b.radii[i] ≤ 5000 ∧ ∀ j, i = j + 1 → (hj : j < b.radii.length) → 2 * b.wire < b.radii[i] - b.radii[j]) := Lib.hid (fun i hi h => by
          obtain rfl : i = 0 := by omega
          exact ⟨by rw [HZ.out]; have := of_decide_eq_false d6; omega, fun j e => by omega⟩)
        go_upto_region 9 with fail
        refine wp_region_later (by kernel_rfl) (by kernel_rfl) ?_
        repeat (go_big_quiet_step (fail))
        refine wpQuiet_nil ?_
        intro w4 hw4
        obtain ⟨⟨w4, hx4⟩, rfl⟩ := hw4
        have HX4 := Lib.hid (HX.out.trans hx4)
        clear hx4
        go_wp2_with fail
        go_roundw
        case rel => exact ⟨1, by omega, by go_num, HOK1.out, HX4.out⟩
        case measure => simp [intOf]; omega
      | succ j =>
        obtain ⟨_, _, e, y0⟩ := (HRC.out.ext HX.out) j (by omega)
        cases e
        obtain ⟨y, hy⟩ : ∃ y, b.radii[j] = y := ⟨_, rfl⟩
        have HY := Lib.hid hy
        have hyb := HGR.out b.radii[j] (List.getElem_mem (by omega))
        rw [hy] at y0 hyb
        obtain ⟨hy0, hy1⟩ := hyb
        have hj0 : decide ((0 : Int) < (j : Int) + 1) = true := decide_eq_true (by omega)
        clear hy
        cases d7 : decide (z - y ≤ 2 * b.wire)
        case true =>
          obtain rfl : g = 2 := HG2.out (fun h => by have := (h.rad (j + 1) hlt).2 j rfl (by omega); rw [HZ.out, HY.out] at this; have := of_decide_eq_true d7; omega)
          go_upto_region 9 with fail
          refine wp_region_later (by kernel_rfl) (by kernel_rfl) ?_
          repeat (go_big_quiet_step (fail))
          refine wpQuiet_nil ?_
          intro w4 hw4
          obtain ⟨⟨w4, hx4⟩, rfl⟩ := hw4
          have HX4 := Lib.hid (HX.out.trans hx4)
          clear hx4
          go_wp2_with fail
          go_ret
          exact ⟨rfl, HX2.out.trans HX4.out⟩
        case false =>
          have HOK1 : Hid (∀ i, i < j + 1 + 1 → (h : i < b.radii.length) → b.radii[i] ≤ 5000 ∧ ∀ j, i = j + 1 → (hj : j < b.radii.length) → 2 * b.wire < b.radii[i] - b.radii[j]) := Lib.hid (fun i hi h => by
            rcases Nat.lt_or_ge i (j + 1) with h' | h'
            · exact HOK.out i h' h
            · obtain rfl : i = j + 1 := by omega
              refine ⟨by rw [HZ.out]; have := of_decide_eq_false d6; omega, fun j' e hj' => ?_⟩
              obtain rfl : j' = j := by omega
              rw [HZ.out, HY.out]
              have := of_decide_eq_false d7
              omega)
          go_upto_region 9 with fail
          refine wp_region_later (by kernel_rfl) (by kernel_rfl) ?_
          repeat (go_big_quiet_step (fail))
          refine wpQuiet_nil ?_
          intro w4 hw4
          obtain ⟨⟨w4, hx4⟩, rfl⟩ := hw4
          have HX4 := Lib.hid (HX.out.trans hx4)
          clear hx4
          go_wp2_with fail
          go_roundw
          case rel => exact ⟨j + 1 + 1, by omega, by go_num, HOK1.out, HX4.out⟩
          case measure => simp [intOf]; omega
    · have hke : k = b.radii.length := by omega
      have HG1 := Lib.hid (HGD.out (fun i h => HOK.out i (by omega) h))
      obtain ⟨W, hW⟩ : ∃ x, wr = x := ⟨_, rfl⟩
      rw [hW] at HBr HX m0 m1 m2 m3 m4 m5 ml ⊢
      have HXW := Lib.hid (HX2.out.trans HX.out)
      subst hke
      clear hW
      go_wp2_with fail
      go_loopw [5] (fun i wr => ∃ k : Nat, k ≤ b.rings.length ∧ i = .int .i64 k ∧ (∀ i, i < k → (h : i < b.rings.length) → 0 ≤ b.rings[i].factor ∧ b.rings[i].factor ≤ 4) ∧ wr = W) (fun i _ => b.rings.length - (intOf i).toNat)
      case atStart => exact ⟨0, Nat.zero_le _, rfl, fun i h => absurd h (Nat.not_lt_zero i), rfl⟩
      case round =>
        obtain ⟨k, hk, rfl, hok, rfl⟩ := hrel
        have HOK2 := Lib.hid hok
        clear hok
        by_cases hlt : k < b.rings.length
        · obtain ⟨gb, go, e, -, x1⟩ := (HB.out.rings.ext HXW.out) k hlt
          have xl := lt_of_cell x1
          simp only at e xl
          obtain ⟨z, hz⟩ : ∃ z, b.rings[k].factor = z := ⟨_, rfl⟩
          have HZ := Lib.hid hz
          rw [hz] at x1
          subst e
          clear hz
          cases d6 : decide (z < 0)
          case true =>
            obtain rfl : g = 2 := HG2.out (fun h => by have := (h.fac k hlt).1; rw [HZ.out] at this; have := of_decide_eq_true d6; omega)
            go_wp2_with fail
            go_ret
            exact ⟨rfl, HXW.out⟩
          case false =>
          cases d7 : decide (4 < z)
          case true =>
            obtain rfl : g = 2 := HG2.out (fun h => by have := (h.fac k hlt).2; rw [HZ.out] at this; have := of_decide_eq_true d7; omega)
            go_wp2_with fail
            go_ret
            exact ⟨rfl, HXW.out⟩
          case false =>
          have HOK3 : Hid (∀ i, i < k + 1 → (h : i < b.rings.length) → 0 ≤ b.rings[i].factor ∧ b.rings[i].factor ≤ 4) := Lib.hid (fun i hi h => by
            rcases Nat.lt_or_ge i k with h' | h'
            · exact HOK2.out i h' h
            · obtain rfl : i = k := by omega
              rw [HZ.out]
              have := of_decide_eq_false d6
              have := of_decide_eq_false d7
              omega)
          go_wp2_with fail
          go_roundw
          case rel => exact ⟨k + 1, by omega, by go_num, HOK3.out, by first | trivial | rfl⟩
          case measure => simp [intOf]; omega
        · have HG4 := Lib.hid (HG1.out (fun i h => HOK2.out i (by omega) h))
          have hke : k = b.rings.length := by omega
          subst hke
          obtain ⟨W2, hW2⟩ : ∃ x, wr = x := ⟨_, rfl⟩
          rw [hW2] at HBr HXW m0 m1 m2 m3 m4 m5 ml ⊢
          clear hW2 HG1
          go_wp2_with fail
          go_loopw [6] (fun i wr => ∃ k : Nat, k ≤ b.nums.length ∧ i = .int .i64 k ∧ (∀ i, i < k → (h : i < b.nums.length) → 1 ≤ b.nums[i] ∧ b.nums[i] ≤ 20) ∧ (∀ i j, i < k → j < i → (h : i < b.nums.length) → (hj : j < b.nums.length) → b.nums[j] ≠ b.nums[i]) ∧ Ext W2 wr) (fun i _ => b.nums.length - (intOf i).toNat)
          case atStart => exact ⟨0, Nat.zero_le _, rfl, fun i h => absurd h (Nat.not_lt_zero i), fun i j h => absurd h (Nat.not_lt_zero i), Ext.refl W2⟩
          case round =>
            obtain ⟨k, hk, rfl, hok, hdu, hx⟩ := hrel
            have HOK3 := Lib.hid hok
            have HDU := Lib.hid hdu
            have HX3 := Lib.hid hx
            have HBn := Lib.hid (HBr.out.ext hx)
            have HXn := Lib.hid (HXW.out.trans hx)
            clear hok hdu hx m0 m1 m2 m3 m4 m5 ml
            have m0 := HBn.out.cell 0 (v := .int .i64 b.eye) rfl
            have m1 := HBn.out.cell 1 (v := .int .i64 b.bull) rfl
            have m2 := HBn.out.cell 2 (v := .slice a1 b.rings.length a4) rfl
            have m3 := HBn.out.cell 3 (v := .slice a2 b.lines.length a5) rfl
            have m4 := HBn.out.cell 4 (v := .slice a3 b.nums.length a6) rfl
            have m5 := HBn.out.cell 5 (v := .int .i64 b.wire) rfl
            have ml := HBn.out.lt
            by_cases hlt : k < b.nums.length
            · obtain ⟨gb, go, e, x1⟩ := (HB.out.nums.ext HXn.out) k hlt
              have xl := lt_of_cell x1
              simp only at e xl
              obtain ⟨z, hz⟩ : ∃ z, b.nums[k] = z := ⟨_, rfl⟩
              have HZ := Lib.hid hz
              rw [hz] at x1
              subst e
              clear hz
              cases d6 : decide (z < 1)
              case true =>
                obtain rfl : g = 2 := HG2.out (fun h => by have := (h.num k hlt).1; rw [HZ.out] at this; have := of_decide_eq_true d6; omega)
                go_wp2_with fail
                go_ret
                exact ⟨rfl, HXn.out⟩
              case false =>
              cases d7 : decide (20 < z)
              case true =>
                obtain rfl : g = 2 := HG2.out (fun h => by have := (h.num k hlt).2; rw [HZ.out] at this; have := of_decide_eq_true d7; omega)
                go_wp2_with fail
                go_ret
                exact ⟨rfl, HXn.out⟩
              case false =>
              have HOK4 : Hid (∀ i, i < k + 1 → (h : i < b.nums.length) → 1 ≤ b.nums[i] ∧ b.nums[i] ≤ 20) := Lib.hid (fun i hi h => by
                rcases Nat.lt_or_ge i k with h' | h'
                · exact HOK3.out i h' h
                · obtain rfl : i = k := by omega
                  rw [HZ.out]
                  have := of_decide_eq_false d6
                  have := of_decide_eq_false d7
                  omega)
              obtain ⟨W3, hW3⟩ : ∃ x, wr = x := ⟨_, rfl⟩
              rw [hW3] at HBn HXn HX3 x1 xl m0 m1 m2 m3 m4 m5 ml ⊢
              clear hW3
              go_wp2_with fail
              go_loopw [7] (fun i wr => ∃ q : Nat, q ≤ k ∧ i = .int .i64 q ∧ (∀ j, j < q → (hj : j < b.nums.length) → b.nums[j] ≠ z) ∧ Ext W3 wr) (fun i _ => k - (intOf i).toNat)
              case atStart => exact ⟨0, Nat.zero_le _, rfl, fun i h => absurd h (Nat.not_lt_zero i), Ext.refl W3⟩
              case round =>
                obtain ⟨q, hq, rfl, hne, hx⟩ := hrel
                have HNE := Lib.hid hne
                have HX4 := Lib.hid hx
                have HBq := Lib.hid (HBn.out.ext hx)
                have HXq := Lib.hid (HXn.out.trans hx)
                have x1' := hx.cell x1
                clear hne hx m0 m1 m2 m3 m4 m5 ml
                have m0 := HBq.out.cell 0 (v := .int .i64 b.eye) rfl
                have m1 := HBq.out.cell 1 (v := .int .i64 b.bull) rfl
                have m2 := HBq.out.cell 2 (v := .slice a1 b.rings.length a4) rfl
                have m3 := HBq.out.cell 3 (v := .slice a2 b.lines.length a5) rfl
                have m4 := HBq.out.cell 4 (v := .slice (some ⟨gb, go, none⟩) b.nums.length a6) rfl
                have m5 := HBq.out.cell 5 (v := .int .i64 b.wire) rfl
                have ml := HBq.out.lt
                by_cases hql : q < k
                · obtain ⟨_, _, e, y1⟩ := (HB.out.nums.ext HXq.out) q (by omega)
                  cases e
                  have yl := lt_of_cell y1
                  simp only at yl
                  obtain ⟨y, hy⟩ : ∃ y, b.nums[q] = y := ⟨_, rfl⟩
                  have HY := Lib.hid hy
                  rw [hy] at y1
                  clear hy
                  cases d8 : (y == z)
                  case true =>
                    obtain rfl : g = 2 := HG2.out (fun h => by
                      refine h.dup k q hql hlt (by omega) ?_
                      rw [HZ.out, HY.out]
                      simpa using d8)
                    go_upto_region 24 with fail
                    refine wp_region_later (by kernel_rfl) (by kernel_rfl) ?_
                    repeat (go_big_quiet_step (fail))
                    refine wpQuiet_nil ?_
                    intro w4 hw4
                    obtain ⟨⟨w4, hx4⟩, rfl⟩ := hw4
                    have HX5 := Lib.hid (HXq.out.trans hx4)
                    clear hx4
                    go_wp2_with fail
                    go_ret
                    exact ⟨rfl, HX5.out⟩
                  case false =>
                    have HNE1 : Hid (∀ j, j < q + 1 → (hj : j < b.nums.length) → b.nums[j] ≠ z) := Lib.hid (fun j hj h => by
                      rcases Nat.lt_or_ge j q with h' | h'
                      · exact HNE.out j h' h
                      · obtain rfl : j = q := by omega
                        rw [HY.out]
                        simpa using d8)
                    go_upto_region 24 with fail
                    refine wp_region_later (by kernel_rfl) (by kernel_rfl) ?_
                    repeat (go_big_quiet_step (fail))
                    refine wpQuiet_nil ?_
                    intro w4 hw4
                    obtain ⟨⟨w4, hx4⟩, rfl⟩ := hw4
                    have HX5 := Lib.hid (HX4.out.trans hx4)
                    clear hx4
                    go_wp2_with fail
                    go_roundw
                    case rel => exact ⟨q + 1, by omega, by go_num, HNE1.out, HX5.out⟩
                    case measure => simp [intOf]; omega
                · have hqe : q = k := by omega
                  subst hqe
                  have HDU1 : Hid (∀ i j, i < q + 1 → j < i → (h : i < b.nums.length) → (hj : j < b.nums.length) → b.nums[j] ≠ b.nums[i]) := Lib.hid (fun i j hi hji h hj => by
                    rcases Nat.lt_or_ge i q with h' | h'
                    · exact HDU.out i j h' hji h hj
                    · obtain rfl : i = q := by omega
                      rw [HZ.out]
                      exact HNE.out j hji hj)
                  have HXe := Lib.hid (HX3.out.trans HX4.out)
                  go_wp2_with fail
                  go_roundw
                  case rel => exact ⟨q + 1, by omega, by go_num, HOK4.out, HDU1.out, HXe.out⟩
                  case measure => simp [intOf]; omega
            · obtain rfl : g = 0 := HG4.out (fun i h => HOK3.out i (by omega) h) (fun i j hji h hj => HDU.out i j (by omega) hji h hj)
              go_wp2_with fail
              go_ret
              exact ⟨rfl, HXn.out⟩
end Go.Proofs.Ytlkbbcfbnbnagaa
