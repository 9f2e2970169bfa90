/-
  Package board: a board as data; its radii, one by one.
-/
import Derived.Test.YtpifdeglhalefaaBeds
import Derived.Test.YtpifdeglhalefaaSlicesI
import Derived.BigQuiet
import Derived.Deep.DeepCutAuto
import Derived.RangeFuncNested
import Derived.RangeFuncBound
import Derived.RangeFuncCalls
import Derived.RangeFuncLeaves
import Derived.Shelf.Abstract
import Derived.Shelf.RegionOpen
import Derived.WalkKit
import Derived.OwnWalkIn
import Derived.TacticsInMore
import Derived.LoopNIn
import Derived.LoopIn
namespace Go.Proofs.Ytpifdeglhalefaa
open Go.RowKit Go.BigFrame
attribute [local go_sem] Later.cell Later.frozen
structure Pt where
  x : Int
  y : Int
  deriving DecidableEq
def Pt.agg (p : Pt) : Value := .agg #[.int .i64 p.x, .int .i64 p.y]
def Pt.ok (p : Pt) : Prop := (-5000 ≤ p.x ∧ p.x ≤ 5000) ∧ (-5000 ≤ p.y ∧ p.y ≤ 5000)
def crossP (d p : Pt) : Int := d.x * p.y - d.y * p.x
def dotP (d p : Pt) : Int := d.x * p.x + d.y * p.y
def partP (d p : Pt) : Int := if crossP d p < 0 then 1 else if 0 < crossP d p then 3 else if 0 < dotP d p then 0 else 2
def befP (d a b : Pt) : Bool := if partP d a ≠ partP d b then decide (partP d a < partP d b) else decide (crossP a b < 0)
theorem mul_small {a b : Int} (ha : -5000 ≤ a ∧ a ≤ 5000) (hb : -5000 ≤ b ∧ b ≤ 5000) : -25000000 ≤ a * b ∧ a * b ≤ 25000000 := by
  have h1 : a.natAbs ≤ 5000 := by omega
  have h2 : b.natAbs ≤ 5000 := by omega
  have h3 : (a * b).natAbs ≤ 25000000 := by
    rw [Int.natAbs_mul]
    exact Nat.le_trans (Nat.mul_le_mul h1 h2) (by decide)
  omega
theorem cross_small {d p : Pt} (hd : d.ok) (hp : p.ok) : -50000000 ≤ crossP d p ∧ crossP d p ≤ 50000000 := by
  have h1 := mul_small hd.1 hp.2
  have h2 := mul_small hd.2 hp.1
  unfold crossP
  omega
theorem dot_small {d p : Pt} (hd : d.ok) (hp : p.ok) : -50000000 ≤ dotP d p ∧ dotP d p ≤ 50000000 := by
  have h1 := mul_small hd.1 hp.1
  have h2 := mul_small hd.2 hp.2
  unfold dotP
  omega
theorem ins_one {a b x : Int} : ins a b [x] = true ↔ a ≤ x ∧ x ≤ b := by
  simp only [ins, out1, List.any_cons, List.any_nil, Bool.or_false, Bool.not_or, Bool.and_eq_true, Bool.not_eq_true', decide_eq_false_iff_not]; omega
theorem brd_within1 (n least most : Int) (al am : Addr) (w : World) (h1 : w.cell? al = some (.int .i64 least)) (h2 : w.cell? am = some (.int .i64 most)) :
    Calls Try.prog 78 #[.int .i64 n, .pointer (some al), .pointer (some am)] w fun e w' => e = .returned (.bool (out1 least most n)) ∧ Ext w w' := by
  go_enter Try.func78, Try.ntmps78
  go_wp2
  all_goals (go_ret; exact ⟨ret_bool (by simp [out1, *]), Ext.refl w⟩)
theorem enters_bwithin1 : Enters Try.prog 78 := enters_of Try.func78 (by kernel_rfl) rfl
theorem brd_within (least most : Int) (l : List Int) (a : Option Addr) (c : Nat) (w : World) (hl : l.length ≤ 9223372036854775807) (ha : CellsAt w .i64 a l) :
    Calls Try.prog 48 #[.int .i64 least, .int .i64 most, .slice a l.length c] w fun e w' => e = .returned (.bool (ins least most l)) ∧ Ext w w' := by
  go_enter Try.func48, Try.ntmps48
  go_wp2_with fail
  have hx : Ext w ((w.alloc (.cells #[.int .i64 least] 3)).alloc (.cells #[.int .i64 most] 3)) := ((Ext.refl w).alloc _).alloc _
  refine (containsFunc_i 78 _ enters_bwithin1 (out1 least most) l a c _ (by exact ha.ext hx) hl (by exact fun x _ w1 hx1 => brd_within1 x least most _ _ w1 (hx1.cell (by simp [go_sem])) (hx1.cell (by simp [go_sem])))).mono ?_
  rintro e w1 ⟨rfl, hx1⟩
  go_wp2
  go_ret
  exact ⟨rfl, hx.trans hx1⟩
theorem brd_within_1 (lo hi x : Int) (w : World) (n : Nat) (hn : n = w.heap.size) :
    Calls Try.prog 48 #[.int .i64 lo, .int .i64 hi, .slice (some ⟨n, 0, none⟩) 1 1] (w.alloc (.cells #[.int .i64 x] 3)) fun e w' => e = .returned (.bool (ins lo hi [x])) ∧ Ext w w' :=
  (brd_within lo hi [x] _ 1 _ (by simp) (CellsAt.one w x _ hn)).mono fun _ _ ⟨he, hx⟩ => ⟨he, ((Ext.refl w).alloc _).trans hx⟩
theorem brd_within_2 (lo hi x y : Int) (w : World) (n : Nat) (hn : n = w.heap.size) :
    Calls Try.prog 48 #[.int .i64 lo, .int .i64 hi, .slice (some ⟨n, 0, none⟩) 2 2] (w.alloc (.cells #[.int .i64 x, .int .i64 y] 3)) fun e w' => e = .returned (.bool (ins lo hi [x, y])) ∧ Ext w w' :=
  (brd_within lo hi [x, y] _ 2 _ (by simp) (CellsAt.two w x y _ hn)).mono fun _ _ ⟨he, hx⟩ => ⟨he, ((Ext.refl w).alloc _).trans hx⟩
theorem brd_isPoint (p : Pt) (w : World) : Calls Try.prog 29 #[p.agg] w fun e w' => e = .returned (.bool (ins (-5000) 5000 [p.x, p.y])) ∧ Ext w w' := by
  obtain ⟨x, y⟩ := p
  unfold Pt.agg
  go_enter Try.func29, Try.ntmps29
  go_wp2_with fail
  refine (brd_within_2 _ _ _ _ _ _ (by simp)).mono ?_
  rintro e w1 ⟨rfl, hx1⟩
  go_wp2
  go_ret
  exact ⟨rfl, ((Ext.refl w).alloc _).trans hx1⟩
theorem brd_cross (d p : Pt) (w : World) (hd : d.ok) (hp : p.ok) : Calls Try.prog 84 #[d.agg, p.agg] w fun e w' => e = .returned (.int .i64 (crossP d p)) ∧ Ext w w' := by
  obtain ⟨x, y⟩ := d
  obtain ⟨a, b⟩ := p
  have h1 := mul_small hd.1 hp.2
  have h2 := mul_small hd.2 hp.1
  simp only at h1 h2
  obtain ⟨h10, h11⟩ := h1
  obtain ⟨h20, h21⟩ := h2
  unfold Pt.agg crossP
  clear hd hp
  go_enter Try.func84, Try.ntmps84
  go_wp2
  go_ret
  exact ⟨rfl, ((Ext.refl w).alloc _).alloc _⟩
theorem brd_dot (d p : Pt) (w : World) (hd : d.ok) (hp : p.ok) : Calls Try.prog 80 #[d.agg, p.agg] w fun e w' => e = .returned (.int .i64 (dotP d p)) ∧ Ext w w' := by
  obtain ⟨x, y⟩ := d
  obtain ⟨a, b⟩ := p
  have h1 := mul_small hd.1 hp.1
  have h2 := mul_small hd.2 hp.2
  simp only at h1 h2
  obtain ⟨h10, h11⟩ := h1
  obtain ⟨h20, h21⟩ := h2
  unfold Pt.agg dotP
  clear hd hp
  go_enter Try.func80, Try.ntmps80
  go_wp2
  go_ret
  exact ⟨rfl, ((Ext.refl w).alloc _).alloc _⟩
theorem brd_square (d : Pt) (w : World) (hd : d.ok) : Calls Try.prog 50 #[d.agg] w fun e w' => e = .returned (.int .i64 (dotP d d)) ∧ Ext w w' := by
  have hk := fun W => brd_dot d d W hd hd
  have HK := Lib.hid hk
  obtain ⟨x, y⟩ := d
  unfold Pt.agg at *
  clear hk hd
  go_enter Try.func50, Try.ntmps50
  go_wp2_with fail
  refine (HK.out _).mono ?_
  rintro e w1 ⟨rfl, hx1⟩
  go_wp2
  go_ret
  exact ⟨rfl, ((Ext.refl w).alloc _).trans hx1⟩
theorem brd_part (d p : Pt) (w : World) (hd : d.ok) (hp : p.ok) : Calls Try.prog 105 #[d.agg, p.agg] w fun e w' => e = .returned (.int .i64 (partP d p)) ∧ Ext w w' := by
  have HC := Lib.hid (fun W => brd_cross d p W hd hp)
  have HD := Lib.hid (fun W => brd_dot d p W hd hp)
  obtain ⟨cr, hcr⟩ : ∃ c, crossP d p = c := ⟨_, rfl⟩
  obtain ⟨dt, hdt⟩ : ∃ c, dotP d p = c := ⟨_, rfl⟩
  rw [hcr] at HC
  rw [hdt] at HD
  have hpp : partP d p = if cr < 0 then 1 else if 0 < cr then 3 else if 0 < dt then 0 else 2 := by unfold partP; rw [hcr, hdt]
  obtain ⟨rp, hrp⟩ : ∃ c, partP d p = c := ⟨_, rfl⟩
  rw [hrp] at hpp ⊢
  have HP := Lib.hid hpp
  obtain ⟨x, y⟩ := d
  obtain ⟨a, b⟩ := p
  unfold Pt.agg at *
  clear hd hp hcr hdt hpp hrp
  go_enter Try.func105, Try.ntmps105
  go_wp2_with fail
  refine (HC.out _).mono ?_
  rintro e w1 ⟨rfl, hx1⟩
  have hx := Ext.trans (((Ext.refl w).alloc _).alloc _) hx1
  obtain ⟨hc1, hf1⟩ := hx1.reads
  by_cases h1 : cr < 0
  · obtain rfl : rp = 1 := by rw [HP.out, if_pos h1]
    go_wp2
    go_ret
    exact ⟨rfl, hx⟩
  · by_cases h2 : 0 < cr
    · obtain rfl : rp = 3 := by rw [HP.out, if_neg (by omega), if_pos h2]
      go_wp2
      go_ret
      exact ⟨rfl, hx⟩
    · go_wp2_with fail
      refine (HD.out _).mono ?_
      rintro e w2 ⟨rfl, hx2⟩
      by_cases h3 : 0 < dt
      · obtain rfl : rp = 0 := by rw [HP.out, if_neg (by omega), if_neg (by omega), if_pos h3]
        go_wp2
        go_ret
        exact ⟨rfl, hx.trans hx2⟩
      · obtain rfl : rp = 2 := by rw [HP.out, if_neg (by omega), if_neg (by omega), if_neg (by omega)]
        go_wp2
        go_ret
        exact ⟨rfl, hx.trans hx2⟩
theorem brd_before (d a b : Pt) (w : World) (hd : d.ok) (ha : a.ok) (hb : b.ok) : Calls Try.prog 85 #[d.agg, a.agg, b.agg] w fun e w' => e = .returned (.bool (befP d a b)) ∧ Ext w w' := by
  have HA := Lib.hid (fun W => brd_part d a W hd ha)
  have HB := Lib.hid (fun W => brd_part d b W hd hb)
  have HC := Lib.hid (fun W => brd_cross a b W ha hb)
  obtain ⟨pa, hpa⟩ : ∃ c, partP d a = c := ⟨_, rfl⟩
  obtain ⟨pb, hpb⟩ : ∃ c, partP d b = c := ⟨_, rfl⟩
  obtain ⟨cr, hcr⟩ : ∃ c, crossP a b = c := ⟨_, rfl⟩
  rw [hpa] at HA
  rw [hpb] at HB
  rw [hcr] at HC
  have hpp : befP d a b = if pa ≠ pb then decide (pa < pb) else decide (cr < 0) := by unfold befP; rw [hpa, hpb, hcr]
  obtain ⟨rp, hrp⟩ : ∃ c, befP d a b = c := ⟨_, rfl⟩
  rw [hrp] at hpp ⊢
  have HP := Lib.hid hpp
  obtain ⟨x, y⟩ := d
  obtain ⟨a, a'⟩ := a
  obtain ⟨b, b'⟩ := b
  unfold Pt.agg at *
  clear hd ha hb hpa hpb hcr hpp hrp
  go_enter Try.func85, Try.ntmps85
  go_upto_region 1 with fail
  obtain ⟨W, hW⟩ : ∃ W, W = ((w.alloc (.cells #[.int .i64 x, .int .i64 y] 99)).alloc (.cells #[.int .i64 a, .int .i64 a'] 99)).alloc (.cells #[.int .i64 b, .int .i64 b'] 99) := ⟨_, rfl⟩
  have hx0 : Ext w W := by rw [hW]; exact (((Ext.refl w).alloc _).alloc _).alloc _
  have x0 : W.cell? ⟨w.heap.size, 0, none⟩ = some (.int .i64 x) := by rw [hW]; simp [go_sem]
  have x1 : W.cell? ⟨w.heap.size, 1, none⟩ = some (.int .i64 y) := by rw [hW]; simp [go_sem]
  have y0 : W.cell? ⟨w.heap.size + 1, 0, none⟩ = some (.int .i64 a) := by rw [hW]; simp [go_sem]
  have y1 : W.cell? ⟨w.heap.size + 1, 1, none⟩ = some (.int .i64 a') := by rw [hW]; simp [go_sem]
  have z0 : W.cell? ⟨w.heap.size + 1 + 1, 0, none⟩ = some (.int .i64 b) := by rw [hW]; simp [go_sem]
  have z1 : W.cell? ⟨w.heap.size + 1 + 1, 1, none⟩ = some (.int .i64 b') := by rw [hW]; simp [go_sem]
  have hsz : W.heap.size = w.heap.size + 1 + 1 + 1 := by rw [hW]; simp
  rw [← hW]
  have l0 : w.heap.size < W.heap.size := by omega
  have l1 : w.heap.size + 1 < W.heap.size := by omega
  have l2 : w.heap.size + 1 + 1 < W.heap.size := by omega
  clear hW hsz
  refine wp_region_later (by kernel_rfl) (by kernel_rfl) ?_
  repeat (go_big_quiet_step (first | with_reducible refine Calls.later (HA.out _) | with_reducible refine Calls.later (HB.out _)))
  refine wpQuiet_nil ?_
  intro w1 hw1
  obtain ⟨⟨w1, hx1⟩, rfl⟩ := hw1
  have hx := hx0.trans hx1
  replace y0 := hx1.cell y0
  replace y1 := hx1.cell y1
  replace z0 := hx1.cell z0
  replace z1 := hx1.cell z1
  clear x0 x1 l0 l1 l2
  by_cases h1 : pa = pb
  · subst h1
    go_wp2_with fail
    refine (HC.out _).mono ?_
    rintro e w2 ⟨rfl, hx2⟩
    have e : rp = decide (cr < 0) := by rw [HP.out, if_neg (by simp)]
    subst e
    go_wp2
    go_ret
    exact ⟨rfl, hx.trans hx2⟩
  · have h1' : (pa == pb) = false := by simpa using h1
    have e : rp = decide (pa < pb) := by rw [HP.out, if_pos h1]
    subst e
    go_wp2
    go_ret
    exact ⟨rfl, hx⟩
end Go.Proofs.Ytpifdeglhalefaa
namespace Go.Proofs.Ytpifdeglhalefaa
open Go.RowKit Go.Shelf
attribute [local go_sem] Oper.semAt_some
structure Rg where
  outer : Int
  factor : Int
  deriving DecidableEq
structure Brd where
  eye : Int
  bull : Int
  rings : List Rg
  lines : List Pt
  nums : List Int
  wire : Int
def Brd.radii (b : Brd) : List Int := b.eye :: b.bull :: b.rings.map (·.outer)
def RgsAt (w : World) (a : Option Addr) (xs : List Rg) : Prop :=
  ∀ i, (h : i < xs.length) → ∃ b o, a = some ⟨b, o, none⟩ ∧ w.cell? ⟨b, o + i * 2, none⟩ = some (.int .i64 xs[i].outer) ∧ w.cell? ⟨b, o + i * 2 + 1, none⟩ = some (.int .i64 xs[i].factor)
theorem RgsAt.ext {w w' : World} {a : Option Addr} {xs : List Rg} (h : RgsAt w a xs) (he : Ext w w') : RgsAt w' a xs := fun i hi => by
  obtain ⟨b, o, e, h0, h1⟩ := h i hi
  exact ⟨b, o, e, he.cell h0, he.cell h1⟩
def PtsAt (w : World) (a : Option Addr) (xs : List Pt) : Prop :=
  ∀ i, (h : i < xs.length) → ∃ b o, a = some ⟨b, o, none⟩ ∧ w.cell? ⟨b, o + i * 2, none⟩ = some (.int .i64 xs[i].x) ∧ w.cell? ⟨b, o + i * 2 + 1, none⟩ = some (.int .i64 xs[i].y)
theorem PtsAt.ext {w w' : World} {a : Option Addr} {xs : List Pt} (h : PtsAt w a xs) (he : Ext w w') : PtsAt w' a xs := fun i hi => by
  obtain ⟨b, o, e, h0, h1⟩ := h i hi
  exact ⟨b, o, e, he.cell h0, he.cell h1⟩
/-- A board's value. -/
structure BrdV where
  (ra la na : Option Addr)
  (rc lc nc : Nat)
def BrdV.cells (v : BrdV) (b : Brd) : Array Value := #[.int .i64 b.eye, .int .i64 b.bull, .slice v.ra b.rings.length v.rc, .slice v.la b.lines.length v.lc, .slice v.na b.nums.length v.nc, .int .i64 b.wire]
structure BrdAt (w : World) (v : BrdV) (b : Brd) : Prop where
  rings : RgsAt w v.ra b.rings
  lines : PtsAt w v.la b.lines
  nums : CellsAt w .i64 v.na b.nums
theorem BrdAt.ext {w w' : World} {v : BrdV} {b : Brd} (h : BrdAt w v b) (hx : Ext w w') : BrdAt w' v b := ⟨h.rings.ext hx, h.lines.ext hx, h.nums.ext hx⟩
/-- The blocks of a board's copy and of its rings. -/
def RadK (Bb : Nat) (ra : Option Addr) (k : Nat) : Prop := k = Bb ∨ ∃ o, ra = some ⟨k, o, none⟩
structure RadW (Bb : Nat) (b : Brd) (ra : Option Addr) (rc : Nat) (W : World) : Prop where
  c0 : W.cell? ⟨Bb, 0, none⟩ = some (.int .i64 b.eye)
  c1 : W.cell? ⟨Bb, 1, none⟩ = some (.int .i64 b.bull)
  c2 : W.cell? ⟨Bb, 2, none⟩ = some (.slice ra b.rings.length rc)
  rg : RgsAt W ra b.rings
theorem RadW.kept {Bb : Nat} {b : Brd} {ra : Option Addr} {rc : Nat} {W W' : World} (h : RadW Bb b ra rc W) (hk : ∀ k, RadK Bb ra k → W'.heap[k]? = W.heap[k]?) : RadW Bb b ra rc W' :=
  ⟨(World.cell?_of_block (hk Bb (.inl rfl))).trans h.c0, (World.cell?_of_block (hk Bb (.inl rfl))).trans h.c1, (World.cell?_of_block (hk Bb (.inl rfl))).trans h.c2, fun i hi => by
    obtain ⟨k, o, e, h0, h1⟩ := h.rg i hi
    exact ⟨k, o, e, (World.cell?_of_block (hk k (.inr ⟨o, e⟩))).trans h0, (World.cell?_of_block (hk k (.inr ⟨o, e⟩))).trans h1⟩⟩
theorem RadW.ext {Bb : Nat} {b : Brd} {ra : Option Addr} {rc : Nat} {W W' : World} (h : RadW Bb b ra rc W) (hx : Ext W W') : RadW Bb b ra rc W' := ⟨hx.cell h.c0, hx.cell h.c1, hx.cell h.c2, h.rg.ext hx⟩
set_option maxRecDepth 100000 in
set_option maxHeartbeats 2000000 in
theorem radii1_in (F : Fence) (n : Nat) (hF : F.fn 106) (hro : F.round = none) (hn : 1 ≤ n) (l Bb : Nat) (b : Brd) (ra : Option Addr) (rc : Nat) (Kp : World → World → Prop) (hK : ∀ {A B : World}, Kp A B → ∀ k, RadK Bb ra k → B.heap[k]? = A.heap[k]?) (J Jx : List Int → World → Prop)
    (W : World) (hJ : AbidesFrom W.heap.size J)
    (hY : ∀ pre x W1, J pre W1 → pre.length < b.radii.length → x ∈ b.radii → YieldAt F (n - 1) Try.prog l #[.int .i64 x] W1 fun e W' =>
      (e = .returned (.bool true) ∧ J (pre ++ [x]) W' ∧ Kp W1 W') ∨ (e = .returned (.bool false) ∧ Jx (pre ++ [x]) W'))
    (hW : RadW Bb b ra rc W) (hlen : b.rings.length ≤ 1000000) (h0 : J [] W) :
    CallsIn F n Try.prog 106 #[.func (.yield l) #[] #[], .pointer (some ⟨Bb, 0, none⟩)] W fun e W' => (∃ v, e = .returned v) ∧
      ((∃ ys, ys = b.radii ∧ J ys W') ∨ (∃ pre, pre <+: b.radii ∧ Jx pre W')) := by
  refine callsIn_of_wp Try.func106 rfl hF ?_ hro
  simp only [Try.ntmps106, List.size_toArray, List.length_cons, List.length_nil, Nat.reduceAdd, Nat.reduceSub, Array.replicate_succ, Array.replicate_zero, List.push_toArray, List.append_toArray, List.nil_append, List.cons_append]
  obtain ⟨f1, t1, a1, b1, hy1, hR1⟩ := hY [] b.eye W h0 (by simp [Brd.radii]) (by simp [Brd.radii])
  have c0 := hW.c0
  gi_wp2
  refine hR1.mono ?_
  rintro e W1 (⟨rfl, hJ1, hk1⟩ | ⟨rfl, hx1⟩)
  · have hW1 := hW.kept (hK hk1)
    have d1 := hW1.c1
    obtain ⟨f2, t2, a2, b2, hy2, hR2⟩ := hY [b.eye] b.bull W1 hJ1 (by simp [Brd.radii]) (by simp [Brd.radii])
    gi_wp2
    refine hR2.mono ?_
    rintro e W2 (⟨rfl, hJ2, hk2⟩ | ⟨rfl, hx2⟩)
    · have hW2 := hW1.kept (hK hk2)
      have e2 := hW2.c2
      gi_wp2
      gi_loopw [20] (fun i wr => ∃ k : Nat, k ≤ b.rings.length ∧ i = .int .i64 k ∧ J (b.eye :: b.bull :: (b.rings.take k).map (·.outer)) wr ∧ RadW Bb b ra rc wr) (fun i _ => b.rings.length - (intOf i).toNat)
      case atStart => exact ⟨0, Nat.zero_le _, rfl, hJ2, hW2⟩
      case round =>
        obtain ⟨k, hk, rfl, hJs, hnx⟩ := hrel
        by_cases hlt : k < b.rings.length
        · obtain ⟨kb, ko, rfl, r0', r1'⟩ := hnx.rg k hlt
          have hJ3 := hJ _ wr (wr.alloc (.cells #[.int .i64 b.rings[k].outer, .int .i64 b.rings[k].factor] 87)) none hJs (World.grownBy_alloc wr _ none) (fun r e => by cases e)
          have hn3 := hnx.ext ((Ext.refl wr).alloc (.cells #[.int .i64 b.rings[k].outer, .int .i64 b.rings[k].factor] 87))
          obtain ⟨f3, t3, a3, b3, hy3, hR3⟩ := hY _ b.rings[k].outer _ hJ3 (by simp [Brd.radii]; omega) (by simp only [Brd.radii, List.mem_cons]; exact .inr (.inr (List.mem_map.2 ⟨b.rings[k], List.getElem_mem hlt, rfl⟩)))
          gi_wp2
          refine hR3.mono ?_
          rintro e W3 (⟨rfl, hJ3, hk3⟩ | ⟨rfl, hx3⟩)
          · have e3 : (b.eye :: b.bull :: (b.rings.take k).map (·.outer)) ++ [b.rings[k].outer] = b.eye :: b.bull :: (b.rings.take (k + 1)).map (·.outer) := by
              rw [List.take_succ_eq_append_getElem hlt, List.map_append]; rfl
            rw [e3] at hJ3
            gi_wp2
            go_roundw
            case rel => exact ⟨k + 1, by omega, by simp, hJ3, hn3.kept (hK hk3)⟩
            case measure => simp [intOf]; omega
          · have e3 : (b.eye :: b.bull :: (b.rings.take k).map (·.outer)) ++ [b.rings[k].outer] <+: b.radii := by
              rw [show (b.eye :: b.bull :: (b.rings.take k).map (·.outer)) ++ [b.rings[k].outer] = b.eye :: b.bull :: (b.rings.take (k + 1)).map (·.outer) by rw [List.take_succ_eq_append_getElem hlt, List.map_append]; rfl]
              refine ⟨(b.rings.drop (k + 1)).map (·.outer), ?_⟩
              simp only [List.cons_append]
              rw [← List.map_append, List.take_append_drop]
              rfl
            gi_wp2
            refine bodyPost_ret (results_none rfl _ _ _) (by rfl) ?_
            exact ⟨⟨_, rfl⟩, .inr ⟨_, e3, hx3⟩⟩
        · obtain rfl : k = b.rings.length := by omega
          gi_wp2
          go_end0
          exact ⟨⟨_, rfl⟩, .inl ⟨_, rfl, by rw [List.take_of_length_le (Nat.le_refl _)] at hJs; exact hJs⟩⟩
    · gi_wp2
      refine bodyPost_ret (results_none rfl _ _ _) (by rfl) ?_
      exact ⟨⟨_, rfl⟩, .inr ⟨_, ⟨b.rings.map (·.outer), rfl⟩, hx2⟩⟩
  · gi_wp2
    refine ⟨fun _ h => (by cases h), ?_⟩
    gi_wp2
    refine bodyPost_ret (results_none rfl _ _ _) (by rfl) ?_
    exact ⟨⟨_, rfl⟩, .inr ⟨_, ⟨b.bull :: b.rings.map (·.outer), rfl⟩, hx1⟩⟩
/-- The radii of a board. -/
theorem radii_stops (F : Fence) (n : Nat) (hF : F.fn 106) (hro : F.round = none) (hn : 1 ≤ n) (Bb : Nat) (b : Brd) (ra : Option Addr) (rc : Nat) (Kp : World → World → Prop) (hK : ∀ {A B : World}, Kp A B → ∀ k, RadK Bb ra k → B.heap[k]? = A.heap[k]?) (w : World)
    (hW : RadW Bb b ra rc w) (hlen : b.rings.length ≤ 1000000) :
    SeqStopsK F n Try.prog 106 #[.pointer (some ⟨Bb, 0, none⟩)] (fun x : Int => #[Value.int .i64 x]) Kp (fun ys => ys = b.radii) (fun pre => pre <+: b.radii) b.radii.length w := fun l J Jx W hB hJ _ hY h0 =>
  radii1_in F n hF hro hn l Bb b ra rc Kp (fun h => hK h) J Jx W hJ (fun pre x W1 h1 h2 _ => hY pre x W1 h1 h2) (hW.ext hB) hlen h0
theorem radii_stopsS (F : Fence) (n : Nat) (hF : F.fn 106) (hro : F.round = none) (hn : 1 ≤ n) (Bb : Nat) (b : Brd) (ra : Option Addr) (rc : Nat) (Kp : World → World → Prop) (hK : ∀ {A B : World}, Kp A B → ∀ k, RadK Bb ra k → B.heap[k]? = A.heap[k]?) (w : World)
    (hW : RadW Bb b ra rc w) (hlen : b.rings.length ≤ 1000000) (p : Int → Prop) (hp : ∀ x ∈ b.radii, p x) :
    SeqStopsK F n Try.prog 106 #[.pointer (some ⟨Bb, 0, none⟩)] (fun x : { x : Int // p x } => #[Value.int .i64 x.1]) Kp (fun ys => ys.map (·.1) = b.radii) (fun pre => pre.map (·.1) <+: b.radii) b.radii.length w := fun l J Jx W hB hJ _ hY h0 => by
  refine (radii1_in F n hF hro hn l Bb b ra rc Kp (fun h => hK h) (fun pre W => ∃ ys : List { x : Int // p x }, ys.map (·.1) = pre ∧ J ys W) (fun pre W => ∃ ys : List { x : Int // p x }, ys.map (·.1) = pre ∧ Jx ys W) W
    (fun s A B row hs hg hr => let ⟨ys, e, h⟩ := hs; ⟨ys, e, hJ ys A B row h hg hr⟩) (fun pre x W1 h1 h2 h3 => ?_) (hW.ext hB) hlen ⟨[], rfl, h0⟩).mono ?_
  · obtain ⟨ys, rfl, h⟩ := h1
    refine (hY ys ⟨x, hp x h3⟩ W1 h (by simpa using h2)).mono ?_
    rintro e W' (⟨rfl, hJ', hk⟩ | ⟨rfl, hx'⟩)
    · exact .inl ⟨rfl, ⟨_, by simp, hJ'⟩, hk⟩
    · exact .inr ⟨rfl, ⟨_, by simp, hx'⟩⟩
  · rintro e W' ⟨hv, ⟨ys, rfl, zs, e, hj⟩ | ⟨pre, hpre, zs, rfl, hj⟩⟩
    · exact ⟨hv, .inl ⟨zs, e, hj⟩⟩
    · exact ⟨hv, .inr ⟨zs, hpre, hj⟩⟩
theorem board_radii (F : Fence) (n : Nat) (hF : F.fn 81) (hro : F.round = none) (v : BrdV) (b : Brd) (w : World) :
    CallsIn F n Try.prog 81 #[.agg (v.cells b)] w fun e w' => e = .returned (.func (.func 106) #[] #[.pointer (some ⟨w.heap.size, 0, none⟩)]) ∧ w' = w.alloc (.cells (v.cells b) 27) := by
  unfold BrdV.cells
  refine callsIn_of_wp Try.func81 rfl hF ?_ hro
  simp only [Try.ntmps81, List.size_toArray, List.length_cons, List.length_nil, Nat.reduceAdd, Nat.reduceSub, Array.replicate_succ, Array.replicate_zero, List.push_toArray, List.append_toArray, List.nil_append, List.cons_append]
  gi_wp2
  go_ret
  exact ⟨rfl, rfl⟩
end Go.Proofs.Ytpifdeglhalefaa
