/-
  Package board: points as data; within, cross, dot, square, isPoint, part, before.
-/
import Derived.Test.YtlkbbcfbnbnagaaGreatBeds
import Derived.Test.YtlkbbcfbnbnagaaGreatSlicesI
import Derived.BigQuiet
import Derived.Deep.DeepCutAuto
namespace Go.Proofs.YtlkbbcfbnbnagaaGreat
open Go.RowKit Go.BigFrame
attribute [local go_sem] Later.cell Later.frozen
structure Pt where
  x : Int
  y : Int
  deriving DecidableEq
def Pt.agg (p : Pt) : Value := .agg #[.int .i64 p.x, .int .i64 p.y]
def Pt.ok (p : Pt) : Prop := (-5000 ≤ p.x ∧ p.x ≤ 5000) ∧ (-5000 ≤ p.y ∧ p.y ≤ 5000)
def crossP (d p : Pt) : Int := d.x * p.y - d.y * p.x
def dotP (d p : Pt) : Int := d.x * p.x + d.y * p.y
def partP (d p : Pt) : Int := if crossP d p < 0 then 1 else if 0 < crossP d p then 3 else if 0 < dotP d p then 0 else 2
def befP (d a b : Pt) : Bool := if partP d a ≠ partP d b then decide (partP d a < partP d b) else decide (crossP a b < 0)
theorem mul_small {a b : Int} (ha : -5000 ≤ a ∧ a ≤ 5000) (hb : -5000 ≤ b ∧ b ≤ 5000) : -25000000 ≤ a * b ∧ a * b ≤ 25000000 := by
  have h1 : a.natAbs ≤ 5000 := by omega
  have h2 : b.natAbs ≤ 5000 := by omega
  have h3 : (a * b).natAbs ≤ 25000000 := by
    rw [Int.natAbs_mul]
    exact Nat.le_trans (Nat.mul_le_mul h1 h2) (by decide)
  omega
theorem cross_small {d p : Pt} (hd : d.ok) (hp : p.ok) : -50000000 ≤ crossP d p ∧ crossP d p ≤ 50000000 := by
  have h1 := mul_small hd.1 hp.2
  have h2 := mul_small hd.2 hp.1
  unfold crossP
  omega
theorem dot_small {d p : Pt} (hd : d.ok) (hp : p.ok) : -50000000 ≤ dotP d p ∧ dotP d p ≤ 50000000 := by
  have h1 := mul_small hd.1 hp.1
  have h2 := mul_small hd.2 hp.2
  unfold dotP
  omega
theorem ins_one {a b x : Int} : ins a b [x] = true ↔ a ≤ x ∧ x ≤ b := by
  simp only [ins, out1, List.any_cons, List.any_nil, Bool.or_false, Bool.not_or, Bool.and_eq_true, Bool.not_eq_true', decide_eq_false_iff_not]; omega
theorem brd_within1 (n least most : Int) (al am : Addr) (w : World) (h1 : w.cell? al = some (.int .i64 least)) (h2 : w.cell? am = some (.int .i64 most)) :
    Calls Tryz.prog 56 #[.int .i64 n, .pointer (some al), .pointer (some am)] w fun e w' => e = .returned (.bool (out1 least most n)) ∧ Ext w w' := by
  go_enter Tryz.func56, Tryz.ntmps56
  go_wp2
  all_goals (go_ret; exact ⟨ret_bool (by simp [out1, *]), Ext.refl w⟩)
theorem enters_bwithin1 : Enters Tryz.prog 56 := enters_of Tryz.func56 (by kernel_rfl) rfl
theorem brd_within (least most : Int) (l : List Int) (a : Option Addr) (c : Nat) (w : World) (hl : l.length ≤ 9223372036854775807) (ha : CellsAt w .i64 a l) :
    Calls Tryz.prog 33 #[.int .i64 least, .int .i64 most, .slice a l.length c] w fun e w' => e = .returned (.bool (ins least most l)) ∧ Ext w w' := by
  go_enter Tryz.func33, Tryz.ntmps33
  go_wp2_with fail
  have hx : Ext w ((w.alloc (.cells #[.int .i64 least] 3)).alloc (.cells #[.int .i64 most] 3)) := ((Ext.refl w).alloc _).alloc _
  refine (containsFunc_i 56 _ enters_bwithin1 (out1 least most) l a c _ (by exact ha.ext hx) hl (by exact fun x _ w1 hx1 => brd_within1 x least most _ _ w1 (hx1.cell (by simp [go_sem])) (hx1.cell (by simp [go_sem])))).mono ?_
  rintro e w1 ⟨rfl, hx1⟩
  go_wp2
  go_ret
  exact ⟨rfl, hx.trans hx1⟩
theorem brd_within_1 (lo hi x : Int) (w : World) (n : Nat) (hn : n = w.heap.size) :
    Calls Tryz.prog 33 #[.int .i64 lo, .int .i64 hi, .slice (some ⟨n, 0, none⟩) 1 1] (w.alloc (.cells #[.int .i64 x] 3)) fun e w' => e = .returned (.bool (ins lo hi [x])) ∧ Ext w w' :=
  (brd_within lo hi [x] _ 1 _ (by simp) (CellsAt.one w x _ hn)).mono fun _ _ ⟨he, hx⟩ => ⟨he, ((Ext.refl w).alloc _).trans hx⟩
theorem brd_within_2 (lo hi x y : Int) (w : World) (n : Nat) (hn : n = w.heap.size) :
    Calls Tryz.prog 33 #[.int .i64 lo, .int .i64 hi, .slice (some ⟨n, 0, none⟩) 2 2] (w.alloc (.cells #[.int .i64 x, .int .i64 y] 3)) fun e w' => e = .returned (.bool (ins lo hi [x, y])) ∧ Ext w w' :=
  (brd_within lo hi [x, y] _ 2 _ (by simp) (CellsAt.two w x y _ hn)).mono fun _ _ ⟨he, hx⟩ => ⟨he, ((Ext.refl w).alloc _).trans hx⟩
theorem brd_isPoint (p : Pt) (w : World) : Calls Tryz.prog 41 #[p.agg] w fun e w' => e = .returned (.bool (ins (-5000) 5000 [p.x, p.y])) ∧ Ext w w' := by
  obtain ⟨x, y⟩ := p
  unfold Pt.agg
  go_enter Tryz.func41, Tryz.ntmps41
  go_wp2_with fail
  refine (brd_within_2 _ _ _ _ _ _ (by simp)).mono ?_
  rintro e w1 ⟨rfl, hx1⟩
  go_wp2
  go_ret
  exact ⟨rfl, ((Ext.refl w).alloc _).trans hx1⟩
theorem brd_cross (d p : Pt) (w : World) (hd : d.ok) (hp : p.ok) : Calls Tryz.prog 85 #[d.agg, p.agg] w fun e w' => e = .returned (.int .i64 (crossP d p)) ∧ Ext w w' := by
  obtain ⟨x, y⟩ := d
  obtain ⟨a, b⟩ := p
  have h1 := mul_small hd.1 hp.2
  have h2 := mul_small hd.2 hp.1
  simp only at h1 h2
  obtain ⟨h10, h11⟩ := h1
  obtain ⟨h20, h21⟩ := h2
  unfold Pt.agg crossP
  clear hd hp
  go_enter Tryz.func85, Tryz.ntmps85
  go_wp2
  go_ret
  exact ⟨rfl, ((Ext.refl w).alloc _).alloc _⟩
theorem brd_dot (d p : Pt) (w : World) (hd : d.ok) (hp : p.ok) : Calls Tryz.prog 83 #[d.agg, p.agg] w fun e w' => e = .returned (.int .i64 (dotP d p)) ∧ Ext w w' := by
  obtain ⟨x, y⟩ := d
  obtain ⟨a, b⟩ := p
  have h1 := mul_small hd.1 hp.1
  have h2 := mul_small hd.2 hp.2
  simp only at h1 h2
  obtain ⟨h10, h11⟩ := h1
  obtain ⟨h20, h21⟩ := h2
  unfold Pt.agg dotP
  clear hd hp
  go_enter Tryz.func83, Tryz.ntmps83
  go_wp2
  go_ret
  exact ⟨rfl, ((Ext.refl w).alloc _).alloc _⟩
theorem brd_square (d : Pt) (w : World) (hd : d.ok) : Calls Tryz.prog 62 #[d.agg] w fun e w' => e = .returned (.int .i64 (dotP d d)) ∧ Ext w w' := by
  have hk := fun W => brd_dot d d W hd hd
  have HK := Lib.hid hk
  obtain ⟨x, y⟩ := d
  unfold Pt.agg at *
  clear hk hd
  go_enter Tryz.func62, Tryz.ntmps62
  go_wp2_with fail
  refine (HK.out _).mono ?_
  rintro e w1 ⟨rfl, hx1⟩
  go_wp2
  go_ret
  exact ⟨rfl, ((Ext.refl w).alloc _).trans hx1⟩
theorem brd_part (d p : Pt) (w : World) (hd : d.ok) (hp : p.ok) : Calls Tryz.prog 76 #[d.agg, p.agg] w fun e w' => e = .returned (.int .i64 (partP d p)) ∧ Ext w w' := by
  have HC := Lib.hid (fun W => brd_cross d p W hd hp)
  have HD := Lib.hid (fun W => brd_dot d p W hd hp)
  obtain ⟨cr, hcr⟩ : ∃ c, crossP d p = c := ⟨_, rfl⟩
  obtain ⟨dt, hdt⟩ : ∃ c, dotP d p = c := ⟨_, rfl⟩
  rw [hcr] at HC
  rw [hdt] at HD
  have hpp : partP d p = if cr < 0 then 1 else if 0 < cr then 3 else if 0 < dt then 0 else 2 := by unfold partP; rw [hcr, hdt]
  obtain ⟨rp, hrp⟩ : ∃ c, partP d p = c := ⟨_, rfl⟩
  rw [hrp] at hpp ⊢
  have HP := Lib.hid hpp
  obtain ⟨x, y⟩ := d
  obtain ⟨a, b⟩ := p
  unfold Pt.agg at *
  clear hd hp hcr hdt hpp hrp
  go_enter Tryz.func76, Tryz.ntmps76
  go_wp2_with fail
  refine (HC.out _).mono ?_
  rintro e w1 ⟨rfl, hx1⟩
  have hx := Ext.trans (((Ext.refl w).alloc _).alloc _) hx1
  obtain ⟨hc1, hf1⟩ := hx1.reads
  by_cases h1 : cr < 0
  · obtain rfl : rp = 1 := by rw [HP.out, if_pos h1]
    go_wp2
    go_ret
    exact ⟨rfl, hx⟩
  · by_cases h2 : 0 < cr
    · obtain rfl : rp = 3 := by rw [HP.out, if_neg (by omega), if_pos h2]
      go_wp2
      go_ret
      exact ⟨rfl, hx⟩
    · go_wp2_with fail
      refine (HD.out _).mono ?_
      rintro e w2 ⟨rfl, hx2⟩
      by_cases h3 : 0 < dt
      · obtain rfl : rp = 0 := by rw [HP.out, if_neg (by omega), if_neg (by omega), if_pos h3]
        go_wp2
        go_ret
        exact ⟨rfl, hx.trans hx2⟩
      · obtain rfl : rp = 2 := by rw [HP.out, if_neg (by omega), if_neg (by omega), if_neg (by omega)]
        go_wp2
        go_ret
        exact ⟨rfl, hx.trans hx2⟩
theorem brd_before (d a b : Pt) (w : World) (hd : d.ok) (ha : a.ok) (hb : b.ok) : Calls Tryz.prog 77 #[d.agg, a.agg, b.agg] w fun e w' => e = .returned (.bool (befP d a b)) ∧ Ext w w' := by
  have HA := Lib.hid (fun W => brd_part d a W hd ha)
  have HB := Lib.hid (fun W => brd_part d b W hd hb)
  have HC := Lib.hid (fun W => brd_cross a b W ha hb)
  obtain ⟨pa, hpa⟩ : ∃ c, partP d a = c := ⟨_, rfl⟩
  obtain ⟨pb, hpb⟩ : ∃ c, partP d b = c := ⟨_, rfl⟩
  obtain ⟨cr, hcr⟩ : ∃ c, crossP a b = c := ⟨_, rfl⟩
  rw [hpa] at HA
  rw [hpb] at HB
  rw [hcr] at HC
  have hpp : befP d a b = if pa ≠ pb then decide (pa < pb) else decide (cr < 0) := by unfold befP; rw [hpa, hpb, hcr]
  obtain ⟨rp, hrp⟩ : ∃ c, befP d a b = c := ⟨_, rfl⟩
  rw [hrp] at hpp ⊢
  have HP := Lib.hid hpp
  obtain ⟨x, y⟩ := d
  obtain ⟨a, a'⟩ := a
  obtain ⟨b, b'⟩ := b
  unfold Pt.agg at *
  clear hd ha hb hpa hpb hcr hpp hrp
  go_enter Tryz.func77, Tryz.ntmps77
  go_upto_region 1 with fail
  obtain ⟨W, hW⟩ : ∃ W, W = ((w.alloc (.cells #[.int .i64 x, .int .i64 y] 90)).alloc (.cells #[.int .i64 a, .int .i64 a'] 90)).alloc (.cells #[.int .i64 b, .int .i64 b'] 90) := ⟨_, rfl⟩
  have hx0 : Ext w W := by rw [hW]; exact (((Ext.refl w).alloc _).alloc _).alloc _
  have x0 : W.cell? ⟨w.heap.size, 0, none⟩ = some (.int .i64 x) := by rw [hW]; simp [go_sem]
  have x1 : W.cell? ⟨w.heap.size, 1, none⟩ = some (.int .i64 y) := by rw [hW]; simp [go_sem]
  have y0 : W.cell? ⟨w.heap.size + 1, 0, none⟩ = some (.int .i64 a) := by rw [hW]; simp [go_sem]
  have y1 : W.cell? ⟨w.heap.size + 1, 1, none⟩ = some (.int .i64 a') := by rw [hW]; simp [go_sem]
  have z0 : W.cell? ⟨w.heap.size + 1 + 1, 0, none⟩ = some (.int .i64 b) := by rw [hW]; simp [go_sem]
  have z1 : W.cell? ⟨w.heap.size + 1 + 1, 1, none⟩ = some (.int .i64 b') := by rw [hW]; simp [go_sem]
  have hsz : W.heap.size = w.heap.size + 1 + 1 + 1 := by rw [hW]; simp
  rw [← hW]
  have l0 : w.heap.size < W.heap.size := by omega
  have l1 : w.heap.size + 1 < W.heap.size := by omega
  have l2 : w.heap.size + 1 + 1 < W.heap.size := by omega
  clear hW hsz
  refine wp_region_later (by kernel_rfl) (by kernel_rfl) ?_
  repeat (go_big_quiet_step (first | with_reducible refine Calls.later (HA.out _) | with_reducible refine Calls.later (HB.out _)))
  refine wpQuiet_nil ?_
  intro w1 hw1
  obtain ⟨⟨w1, hx1⟩, rfl⟩ := hw1
  have hx := hx0.trans hx1
  replace y0 := hx1.cell y0
  replace y1 := hx1.cell y1
  replace z0 := hx1.cell z0
  replace z1 := hx1.cell z1
  clear x0 x1 l0 l1 l2
  by_cases h1 : pa = pb
  · subst h1
    go_wp2_with fail
    refine (HC.out _).mono ?_
    rintro e w2 ⟨rfl, hx2⟩
    have e : rp = decide (cr < 0) := by rw [HP.out, if_neg (by simp)]
    subst e
    go_wp2
    go_ret
    exact ⟨rfl, hx.trans hx2⟩
  · have h1' : (pa == pb) = false := by simpa using h1
    have e : rp = decide (pa < pb) := by rw [HP.out, if_pos h1]
    subst e
    go_wp2
    go_ret
    exact ⟨rfl, hx⟩
end Go.Proofs.YtlkbbcfbnbnagaaGreat
