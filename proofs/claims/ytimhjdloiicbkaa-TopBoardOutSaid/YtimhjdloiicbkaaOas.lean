/-
  TopBoardOut: the walk.
-/
import Derived.Test.YtimhjdloiicbkaaOar
import Derived.Test.YtimhjdloiicbkaaOwa
namespace Go.Proofs.Ytimhjdloiicbkaa
open Go.RowKit Go.BigFrame
attribute [local go_sem] Oper.semAt_some Later.cell Later.frozen Lat.cell Lat.frozen NoX
theorem four_set {w : World} {b : Nat} {v0 v1 v2 v3 : Value} (h : Blk w b #[v0, v1, v2, v3]) (x0 x1 x2 x3 : Value) : Blk ((((w.setCell ⟨b, 0, none⟩ x0).setCell ⟨b, 1, none⟩ x1).setCell ⟨b, 2, none⟩ x2).setCell ⟨b, 3, none⟩ x3) b #[x0, x1, x2, x3] := ((((h.set 0 x0).set 1 x1).set 2 x2).set 3 x3)
theorem four_chg (S : Nat → Prop) (w : World) {b : Nat} (hb : S b) (x0 x1 x2 x3 : Value) : Chg S w ((((w.setCell ⟨b, 0, none⟩ x0).setCell ⟨b, 1, none⟩ x1).setCell ⟨b, 2, none⟩ x2).setCell ⟨b, 3, none⟩ x3) := (((((Chg.refl S w).setCell (.inr hb) x0).setCell (.inr hb) x1).setCell (.inr hb) x2).setCell (.inr hb) x3)
/-- Of two ascending lists: all that stands ahead of a place in the one is less than an element of the other. -/
def AtB (all few : List Int) (i at' : Nat) : Prop := ∀ x, few[i]? = some x → ∀ q y, q < at' → all[q]? = some y → y < x
theorem atB_zero (all few : List Int) : AtB all few 0 0 := fun _ _ q _ hq => absurd hq (by omega)
theorem asc_at {l : List Int} (h : l.Pairwise (· < ·)) {i j : Nat} {x y : Int} (hij : i < j) (hi : l[i]? = some x) (hj : l[j]? = some y) : x < y := by
  obtain ⟨hi1, rfl⟩ := List.getElem?_eq_some_iff.1 hi
  obtain ⟨hj1, rfl⟩ := List.getElem?_eq_some_iff.1 hj
  exact (List.pairwise_iff_getElem.1 h) i j hi1 hj1 hij
theorem atB_next {all few : List Int} (hf : few.Pairwise (· < ·)) {i at' : Nat} {x : Int} (h : AtB all few i at') (hx : few[i]? = some x) : AtB all few (i + 1) at' := fun z hz q y hq hy => by
  have h1 := h x hx q y hq hy
  have h2 := asc_at hf (Nat.lt_succ_self i) hx hz
  omega
theorem atB_step {all few : List Int} {i at' : Nat} {x y : Int} (h : AtB all few i at') (hy : all[at']? = some y) (hx : few[i]? = some x) (hlt : y < x) : AtB all few i (at' + 1) := fun z hz q u hq hu => by
  rw [hx] at hz
  injection hz with hz
  subst hz
  by_cases e : q = at'
  · subst e
    rw [hy] at hu
    injection hu with hu
    omega
  · exact h _ hx q u (by omega) hu
theorem atB_end {all few : List Int} (ha : all.Pairwise (· < ·)) (hs : ∀ x ∈ few, x ∈ all) {i at' : Nat} {x : Int} (h : AtB all few i at') (hx : few[i]? = some x) (he : at' = all.length ∨ ∃ y, all[at']? = some y ∧ ¬ y < x) : at' < all.length ∧ all[at']? = some x := by
  obtain ⟨j, hj⟩ := List.getElem?_of_mem (hs x (List.mem_of_getElem? hx))
  have hjl := (List.getElem?_eq_some_iff.1 hj).1
  have hja : at' ≤ j := by
    rcases Nat.lt_or_ge j at' with h1 | h1
    · have := h x hx j x h1 hj
      omega
    · exact h1
  refine ⟨by omega, ?_⟩
  rcases he with he | ⟨y, hy, hn⟩
  · omega
  · by_cases e : at' = j
    · rw [e]; exact hj
    · have := asc_at ha (show at' < j by omega) hy hj
      omega
theorem cellsA0 (v : BrdV) (f : Nat → Nat) : v.cells (armB f 0) = #[.int .i64 64, .int .i64 159, .slice v.ra 4 v.rc, .slice v.la 20 v.lc, .slice v.na 20 v.nc, .int .i64 0] := by
  rw [cellsA]
  rfl
theorem own_set {W : World} {base z n c g : Nat} {e : TypeId} {xs : List Value} (h : W.ownsRow base e z (.slice (some ⟨g, 0, none⟩) n c) n xs) (hn : 0 < n) (j : Nat) (v : Value) (_hj : j < n * z) : (W.setCell ⟨g, j, none⟩ v).ownsRow base e z (.slice (some ⟨g, 0, none⟩) n c) n (xs.set j v) := by
  obtain ⟨h1, ⟨e1, h2⟩ | ⟨g', cap, cur, e1, h2, h3, h4, h5, h6, h7⟩⟩ := h
  · omega
  · cases e1
    refine ⟨by rw [List.length_set]; exact h1, .inr ⟨g, c, cur.setIfInBounds j v, rfl, h2, BlkO.set h3 j v, h4, h5, by simpa using h6, ?_⟩⟩
    rw [Array.toList_setIfInBounds, List.take_set, h7]
/-- A board with a ring that is dead. -/
def deadF (f : Nat → Nat) (d k : Nat) : Nat := if k = d then 0 else f k
theorem dead_rings (f : Nat → Nat) (d : Nat) (h : d < 4) : (ringC ((List.range 4).map (rgA f))).set (d * 2 + 1) (.int .i64 0) = ringC ((List.range 4).map (rgA (deadF f d))) := by
  match d, h with
  | 0, _ => rfl
  | 1, _ => rfl
  | 2, _ => rfl
  | 3, _ => rfl
theorem ArmO.dead {base : Nat} {W : World} {v : BrdV} {f : Nat → Nat} {wire g : Nat} (h : ArmO base W v (armB f wire)) (hg : v.ra = some ⟨g, 0, none⟩) {d : Nat} (hd : d < 4) : ArmO base (W.setCell ⟨g, d * 2 + 1, none⟩ (.int .i64 0)) v (armB (deadF f d) wire) := by
  obtain ⟨ra, la, na, rc, lc, nc⟩ := v
  cases hg
  have hC : Chg (· = g) W (W.setCell ⟨g, d * 2 + 1, none⟩ (.int .i64 0)) := (Chg.refl (· = g) W).setCell (.inr rfl) _
  obtain ⟨cs, ht⟩ := own_typeO h.rings (k := g) rfl
  refine ⟨?_, own_chg h.lines hC ?_, ?_⟩
  · have h1 := own_set h.rings (by unfold armB; simp) (d * 2 + 1) (.int .i64 0) (by unfold armB; simp; omega)
    have h2 : (ringC (armB f wire).rings).set (d * 2 + 1) (.int .i64 0) = ringC (armB (deadF f d) wire).rings := dead_rings f d hd
    rw [h2] at h1
    exact h1
  · intro q hq e
    obtain ⟨cs2, ht2⟩ := own_typeO h.lines hq
    rw [show q = g from e, ht] at ht2
    cases ht2
  · obtain ⟨nb, e, hb, h3⟩ := h.nums
    refine ⟨nb, e, hb, h3.chg hC ?_⟩
    intro e2
    unfold BlkO at h3
    rw [show nb = g from e2, ht] at h3
    cases h3
set_option maxRecDepth 100000 in
set_option maxHeartbeats 8000000 in
theorem board_out (f : Nat → Nat) (dead gate most : Nat) (w : World) (hf : ∀ k, f k < 256) (hd : dead < 256) (hg : gate < 256) (hm : most < 256) :
    Calls Try.prog 3 #[.agg #[.int .u8 (f 0), .int .u8 (f 1), .int .u8 (f 2), .int .u8 (f 3), .int .u8 dead, .int .u8 gate, .int .u8 most]] w fun e w' => e = .returned (.bool true) ∧ Ext w w' := by
  have HAB := Lib.hid (fun W => (show Calls Try.prog 5 #[.agg #[.int .u8 (f 0), .int .u8 (f 1), .int .u8 (f 2), .int .u8 (f 3)], .int .u8 0] W fun e w' => ∃ v : BrdV, e = .returned (.agg (v.cells (armB f 0))) ∧ ArmO W.heap.size w' v (armB f 0) ∧ Ext W w' from arm_Board f 0 W hf (by omega)))
  clear hf
  go_enter Try.func3, Try.ntmps3
  go_upto_region 1 with fail
  obtain ⟨w1, hw1⟩ : ∃ y, y = w.alloc (.cells #[.int .u8 (f 0), .int .u8 (f 1), .int .u8 (f 2), .int .u8 (f 3), .int .u8 dead, .int .u8 gate, .int .u8 most] 24) := ⟨_, rfl⟩
  have hb1 : Blk w1 w.heap.size #[.int .u8 (f 0), .int .u8 (f 1), .int .u8 (f 2), .int .u8 (f 3), .int .u8 dead, .int .u8 gate, .int .u8 most] := by rw [hw1]; exact Blk.new _ _ _
  have hx1 : Ext w w1 := by rw [hw1]; exact (Ext.refl w).alloc _
  rw [← hw1]
  have HX1 := Lib.hid hx1
  clear hw1 hx1
  have p0 : ∀ y : Lat NoX w1, y.world.cell? ⟨w.heap.size, 0, none⟩ = some (.int .u8 (f 0)) := fun y => (hb1.ext (Lat.ext0 y)).cell 0 rfl
  have p1 : ∀ y : Lat NoX w1, y.world.cell? ⟨w.heap.size, 1, none⟩ = some (.int .u8 (f 1)) := fun y => (hb1.ext (Lat.ext0 y)).cell 1 rfl
  have p2 : ∀ y : Lat NoX w1, y.world.cell? ⟨w.heap.size, 2, none⟩ = some (.int .u8 (f 2)) := fun y => (hb1.ext (Lat.ext0 y)).cell 2 rfl
  have p3 : ∀ y : Lat NoX w1, y.world.cell? ⟨w.heap.size, 3, none⟩ = some (.int .u8 (f 3)) := fun y => (hb1.ext (Lat.ext0 y)).cell 3 rfl
  have p4 : ∀ y : Lat NoX w1, y.world.cell? ⟨w.heap.size, 4, none⟩ = some (.int .u8 dead) := fun y => (hb1.ext (Lat.ext0 y)).cell 4 rfl
  have p5 : ∀ y : Lat NoX w1, y.world.cell? ⟨w.heap.size, 5, none⟩ = some (.int .u8 gate) := fun y => (hb1.ext (Lat.ext0 y)).cell 5 rfl
  have p6 : ∀ y : Lat NoX w1, y.world.cell? ⟨w.heap.size, 6, none⟩ = some (.int .u8 most) := fun y => (hb1.ext (Lat.ext0 y)).cell 6 rfl
  have pl := hb1.lt
  clear hb1
  refine wp_region_lat (by kernel_rfl) NoX (boxN 8 9) (BoxR 8) (BoxG 8 9 #[.int .u8 0, .int .u8 0, .int .u8 0, .int .u8 0] #[.int .u8 (f 0), .int .u8 (f 1), .int .u8 (f 2), .int .u8 (f 3)] w1.heap.size) (by kernel_rfl)
    (fun k hk => by
      simp only [boxN, Bool.or_eq_true, beq_iff_eq] at hk
      rcases hk with rfl | rfl <;> decide)
    (fun L L' u w' h hg => hg.congr (h 8 rfl) (h 9 rfl)) (fun L u a b h hx => h.ext hx) (fun _ => .pointer (some ⟨0, 0, none⟩)) (fun k _ => ⟨0, fun _ => rfl⟩) ⟨fun h => (by cases h)⟩ ?_
  intro T hT hne2 u hu
  obtain ⟨k3, e_box⟩ := hu 8 rfl
  replace e_box := e_box rfl
  refine lx_next 8 (by rfl) (by decide) ?_
  dsimp only [List.take, List.drop]
  repeat (go_big_quiet_step (fail))
  refine wpQuiet_nil ?_
  refine lx_loud (by rfl) (by kernel_rfl) ?_ (fun K hK => ?_)
  · intro L w4 hL hd hcl hC hs
    obtain ⟨y, rfl⟩ := hC
    have h6 := hcl.off hL 40 9 (by kernel_rfl)
    have hy := y.size
    clear hs hd hcl
    go_wp2
    exact ⟨⟨_, fun _ => rfl⟩, ⟨y.ext ((Ext.refl _).alloc _), rfl⟩, ⟨fun _ => ⟨_, rfl, hy, by rw [show upd L 8 9 = L 9 from rfl, h6]; exact Blk.new _ _ _⟩⟩⟩
  rw [e_box]
  go_simp
  with_reducible refine hK _ ?_
  clear hK K
  refine lx_loud (by rfl) (by kernel_rfl) ?_ (fun K hK => ?_)
  · intro L w4 hL hd hcl hC hs
    obtain ⟨y, rfl⟩ := hC
    obtain ⟨k, ek, hk, hbk⟩ := hs.at_ (hd 8 (by kernel_rfl))
    obtain rfl : k3 = k := by have h := e_box.symm.trans ek; cases h; rfl
    rw [hL] at hbk
    have hbk : Blk y.world k3 #[.int .u8 0, .int .u8 0, .int .u8 0, .int .u8 0] := hbk
    have r0 := hbk.cell 0 (v := .int .u8 0) rfl
    have rf0 := hbk.frozen 0
    have r1 := hbk.cell 1 (v := .int .u8 0) rfl
    have rf1 := hbk.frozen 1
    have r2 := hbk.cell 2 (v := .int .u8 0) rfl
    have rf2 := hbk.frozen 2
    have r3 := hbk.cell 3 (v := .int .u8 0) rfl
    have rf3 := hbk.frozen 3
    have rl := hbk.lt
    have HBK := Lib.hid hbk
    have HEK := Lib.hid ek
    have HHK := Lib.hid hk
    clear hs hd hcl hbk ek hk
    go_wp2
    refine ⟨⟨0, fun h => absurd h (by decide)⟩, ⟨y.chgd (four_chg (· = k3) y.world (b := k3) rfl _ _ _ _) (fun b hb => .inl (by rw [show b = k3 from hb]; exact HHK.out)), rfl⟩, ⟨fun _ => ⟨k3, HEK.out, HHK.out, four_set HBK.out _ _ _ _⟩⟩⟩
  go_simp
  with_reducible refine hK _ ?_
  clear hK K
  refine lx_next 3 (by rfl) (by decide) ?_
  dsimp only [List.take, List.drop]
  repeat (go_big_quiet_step (fail))
  refine wpQuiet_nil ?_
  refine lx_nil ?_
  intro y hs
  obtain ⟨kk, ek, hk, hbk⟩ := hs.at_ rfl
  obtain rfl : k3 = kk := by have h := e_box.symm.trans ek; cases h; rfl
  have K3 : Hid (Blk y.world k3 #[.int .u8 (f 0), .int .u8 (f 1), .int .u8 (f 2), .int .u8 (f 3)]) := Lib.hid hbk
  have Hk3 : Hid (w1.heap.size ≤ k3) := Lib.hid hk
  have HXw2 := Lib.hid (Lat.ext0 y)
  clear hs hbk hk ek e_box hu hT hne2 p0 p1 p2 p3 p4 p5 p6 pl
  generalize y.world = w2 at *
  clear y
  have r0 := K3.out.cell 0 (v := .int .u8 (f 0)) rfl
  have r1 := K3.out.cell 1 (v := .int .u8 (f 1)) rfl
  have r2 := K3.out.cell 2 (v := .int .u8 (f 2)) rfl
  have r3 := K3.out.cell 3 (v := .int .u8 (f 3)) rfl
  have rl := K3.out.lt
  have HX02 := Lib.hid (HX1.out.trans HXw2.out)
  clear HX1 HXw2
  go_wp2_with fail
  refine (HAB.out _).mono ?_
  rintro e w3 ⟨v3, rfl, ho3, hx3⟩
  have HB3 := Lib.hid ho3.at_
  have HX03 := Lib.hid (HX02.out.trans hx3)
  have hk3 := K3.out.ext hx3
  have HK3b := Lib.hid hk3
  have r0 := hk3.cell 0 (v := .int .u8 (f 0)) rfl
  have r1 := hk3.cell 1 (v := .int .u8 (f 1)) rfl
  have r2 := hk3.cell 2 (v := .int .u8 (f 2)) rfl
  have r3 := hk3.cell 3 (v := .int .u8 (f 3)) rfl
  have rl := hk3.lt
  rw [cellsA0]
  obtain ⟨ra, la, na, rc, lc, nc⟩ := v3
  simp only
  clear ho3 hx3 hk3 HX02
  go_wp2_with fail
  refine (HAB.out _).mono ?_
  rintro e w4 ⟨v4, rfl, ho4, hx4⟩
  have hy4 : Ext w3 w4 := ((Ext.refl w3).alloc _).trans hx4
  have HK7 := Lib.hid (show Blk w4 w3.heap.size #[.int .i64 64, .int .i64 159, .slice ra 4 rc, .slice la 20 lc, .slice na 20 nc, .int .i64 0] from (Blk.new _ _ _).ext hx4)
  have HB4 := Lib.hid (HB3.out.ext hy4)
  have HX04 := Lib.hid (HX03.out.trans hy4)
  have HO4 := Lib.hid ho4
  rw [cellsA0]
  obtain ⟨sa, sb, sn, sc, sd, se⟩ := v4
  simp only
  have hrow := ho4.rings
  obtain ⟨gr, hgr, hgc⟩ := own_cells2 hrow (by unfold armB; simp)
  simp only at hgr
  subst hgr
  obtain ⟨hrl0, hrl1⟩ := World.ownsRow.lt hrow gr rfl
  obtain ⟨rcs, hrt⟩ := own_typeO hrow (k := gr) rfl
  replace hrl0 : w3.heap.size + 1 ≤ gr := by simpa using hrl0
  have hq : ((dead : Int) % 4) = ((dead % 4 : Nat) : Int) := by omega
  have hd4 : dead % 4 < 4 := by omega
  obtain ⟨d, hdd⟩ : ∃ y, dead % 4 = y := ⟨_, rfl⟩
  rw [hdd] at hq hd4
  have HQ := Lib.hid hq
  have HDD := Lib.hid hdd
  have HX34 := Lib.hid hy4
  have hgz := hgc (dead % 4 * 2 + 1) _ (rgs_flat (armB f 0).rings (dead % 4) (by unfold armB; simp; omega)).2
  obtain ⟨gz, hgz2⟩ : ∃ y, ((armB f 0).rings[dead % 4]'(by unfold armB; simp; omega)).factor = y := ⟨_, rfl⟩
  rw [hgz2] at hgz
  clear hgz2 hgc
  have rf := (show Blk w4 gr rcs from ⟨_, hrt⟩).frozen (dead % 4 * 2 + 1)
  clear HAB HK3b hy4 hx4 hrow hrt r0 r1 r2 r3 rl hq hdd ho4
  go_upto_region 5 with fail
  have hdd := HDD.out
  rw [hdd]
  obtain ⟨w5, hw5⟩ : ∃ y, y = (w4.setCell ⟨gr, d * 2 + 1, none⟩ (.int .i64 0)).alloc (.cells #[.int .i64 64, .int .i64 159, .slice (some ⟨gr, 0, none⟩) 4 sc, .slice sb 20 sd, .slice sn 20 se, .int .i64 0] 29) := ⟨_, rfl⟩
  have hc5 : Chg (· = gr) w4 w5 := by rw [hw5]; exact ((Chg.refl (· = gr) w4).setCell (p := ⟨gr, d * 2 + 1, none⟩) (.inr (show (fun x => x = gr) gr from rfl)) _).alloc _
  have ho5 : BrdAt w5 ⟨some ⟨gr, 0, none⟩, sb, sn, sc, sd, se⟩ (armB (deadF f d) 0) := by
    rw [hw5]
    exact (ArmO.dead HO4.out rfl hd4).at_.ext ((Ext.refl _).alloc _)
  have hk5 : Blk w5 w4.heap.size #[.int .i64 64, .int .i64 159, .slice (some ⟨gr, 0, none⟩) 4 sc, .slice sb 20 sd, .slice sn 20 se, .int .i64 0] := by
    rw [hw5]
    exact Blk.at _ (by simp)
  have hx35 : Ext w3 w5 := Chg.to_ext HX34.out hc5 (by rintro q rfl; omega)
  rw [← hw5]
  clear hw5 rf hgz hdd HO4
  have HK7b := Lib.hid (HK7.out.chg hc5 (by intro e; omega))
  have HB5 := Lib.hid (HB3.out.ext hx35)
  have HL5 := Lib.hid ho5
  have HX05 := Lib.hid (HX03.out.trans hx35)
  have HK5 := Lib.hid hk5
  clear hc5 ho5 hk5 hx35 HK7 HB4 HX04 HB3 HX03 HX34
  have c0 := HK7b.out.cell 0 (v := .int .i64 64) rfl
  have c1 := HK7b.out.cell 1 (v := .int .i64 159) rfl
  have c2 := HK7b.out.cell 2 (v := .slice ra 4 rc) rfl
  have c3 := HK7b.out.cell 3 (v := .slice la 20 lc) rfl
  have c4 := HK7b.out.cell 4 (v := .slice na 20 nc) rfl
  have c5 := HK7b.out.cell 5 (v := .int .i64 0) rfl
  have cl := HK7b.out.lt
  have hc := brd_All ⟨ra, la, na, rc, lc, nc⟩ (armB f 0) w5 HB5.out (smallA f 0)
  rw [cellsA0, allA] at hc
  go_wp2_with fail
  refine hc.mono ?_
  rintro e w6 ⟨u6, rfl, ho6, hx6⟩
  obtain ⟨aa, ac, rfl, hca⟩ := ho6.cells
  have hk6 := HK5.out.ext hx6
  have c0 := hk6.cell 0 (v := .int .i64 64) rfl
  have c1 := hk6.cell 1 (v := .int .i64 159) rfl
  have c2 := hk6.cell 2 (v := .slice (some ⟨gr, 0, none⟩) 4 sc) rfl
  have c3 := hk6.cell 3 (v := .slice sb 20 sd) rfl
  have c4 := hk6.cell 4 (v := .slice sn 20 se) rfl
  have c5 := hk6.cell 5 (v := .int .i64 0) rfl
  have cl := hk6.lt
  have HX06 := Lib.hid (HX05.out.trans hx6)
  have HCA := Lib.hid hca
  have hc := brd_All ⟨some ⟨gr, 0, none⟩, sb, sn, sc, sd, se⟩ (armB (deadF f d) 0) w6 (HL5.out.ext hx6) (smallA _ 0)
  rw [cellsA0, allA] at hc
  clear hx6 ho6 hca hk6 HK5 HL5 HB5 HX05 HK7b
  simp only
  go_wp2_with fail
  refine hc.mono ?_
  rintro e w7 ⟨u7, rfl, ho7, hx7⟩
  obtain ⟨fa, fc, rfl, hcf⟩ := ho7.cells
  have HX7 := Lib.hid (HX06.out.trans hx7)
  have HCA7 := Lib.hid (HCA.out.ext hx7)
  have HCF7 := Lib.hid hcf
  clear hc hx7 ho7 hcf c0 c1 c2 c3 c4 c5 cl HCA HX06
  have hsub := bedsA_sub (f := f) (f' := deadF f d) (wire := 0) (fun k _ => by unfold deadF; split; exact .inl rfl; exact .inr rfl)
  have hla := bedsA_len f 0
  have hlf := bedsA_len (deadF f d) 0
  have HRA := Lib.hid (fun (g dt : Int) (hg : 0 ≤ g ∧ g ≤ 2) (hd : 1 ≤ dt ∧ dt ≤ 9) => rulA f 0 hg hd)
  have HRF := Lib.hid (fun (g dt : Int) (hg : 0 ≤ g ∧ g ≤ 2) (hd : 1 ≤ dt ∧ dt ≤ 9) => rulA (deadF f d) 0 hg hd)
  have HWA := Lib.hid (fun x (hx : x ∈ bedsA f 0) => (bedsA_wrt x hx).2.1)
  have HASA := Lib.hid (bedsA_asc f 0)
  have HASF := Lib.hid (bedsA_asc (deadF f d) 0)
  obtain ⟨A, hA⟩ : ∃ y, bedsA f 0 = y := ⟨_, rfl⟩
  obtain ⟨F, hF⟩ : ∃ y, bedsA (deadF f d) 0 = y := ⟨_, rfl⟩
  simp only [hA, hF] at *
  have HSUB := Lib.hid hsub
  obtain ⟨nA, hnA⟩ : ∃ y, A.length = y := ⟨_, rfl⟩
  obtain ⟨nF, hnF⟩ : ∃ y, F.length = y := ⟨_, rfl⟩
  rw [hnA] at hla
  rw [hnF] at hlf
  rw [hnA, hnF]
  have HNA := Lib.hid hnA
  have HNF := Lib.hid hnF
  obtain ⟨ha2, ha82⟩ := hla
  obtain ⟨hf2, hf82⟩ := hlf
  clear hsub hA hF hnA hnF
  go_upto_region 11 with fail
  go_loopw [13, 14] (fun av iv wr => ∃ (i at' : Nat), i ≤ nF ∧ at' ≤ nA ∧ av = .int .i64 at' ∧ iv = .int .i64 i ∧ AtB A F i at' ∧ Ext w7 wr) (fun _ iv _ => nF - (intOf iv).toNat)
  case atStart => exact ⟨0, 0, by omega, by omega, rfl, rfl, atB_zero _ _, Ext.refl _⟩
  case round =>
    rename_i av iv
    obtain ⟨i, at', hi, ha, rfl, rfl, hat, hx⟩ := hrel
    obtain ⟨wa, rfl⟩ : ∃ y, y = wr := ⟨_, rfl⟩
    have HAT := Lib.hid hat
    have HXa := Lib.hid hx
    clear hat hx
    by_cases hli : i < nF
    · have hli' : (i : Int) < (nF : Int) := by omega
      have hil : i < F.length := by rw [HNF.out]; exact hli
      obtain ⟨fb, fo, rfl, f0⟩ := HCF7.out i hil
      have hfx : F[i]? = some F[i] := List.getElem?_eq_getElem hil
      obtain ⟨x, hx⟩ : ∃ y, F[i] = y := ⟨_, rfl⟩
      rw [hx] at f0 hfx
      have HFX := Lib.hid hfx
      have HF0 := Lib.hid f0
      clear hx hil hfx f0
      go_wp2
      go_loopw [13] (fun av wr => ∃ at' : Nat, at' ≤ nA ∧ av = .int .i64 at' ∧ AtB A F i at' ∧ Ext w7 wr) (fun av _ => nA - (intOf av).toNat)
      case atStart => exact ⟨at', ha, rfl, HAT.out, HXa.out⟩
      case round =>
        rename_i av
        obtain ⟨q, hq, rfl, hat, hx⟩ := hrel
        obtain ⟨wb, rfl⟩ : ∃ y, y = wr := ⟨_, rfl⟩
        clear HAT
        have HAT := Lib.hid hat
        have HXb := Lib.hid hx
        clear hat hx
        have f0 := HXb.out.cell HF0.out
        have fl0 := lt_of_cell f0
        simp only at fl0 f0
        by_cases hlq : q < nA
        · have hlq' : (q : Int) < (nA : Int) := by omega
          have hqe : ((q : Int) == (nA : Int)) = false := by simp; omega
          have hql : q < A.length := by rw [HNA.out]; exact hlq
          obtain ⟨gb, go, rfl, g0⟩ := HCA7.out q hql
          have hgx : A[q]? = some A[q] := List.getElem?_eq_getElem hql
          obtain ⟨y, hy⟩ : ∃ y, A[q] = y := ⟨_, rfl⟩
          rw [hy] at g0 hgx
          have HGX := Lib.hid hgx
          have HG0 := Lib.hid g0
          replace g0 := HXb.out.cell g0
          have gl0 := lt_of_cell g0
          simp only at gl0 g0
          clear hy hql hgx
          cases hyx : decide (y < x)
          · have hnx : ¬ y < x := by simpa using hyx
            obtain ⟨-, hxx⟩ := atB_end HASA.out HSUB.out HAT.out HFX.out (.inr ⟨y, HGX.out, hnx⟩)
            have hyx2 : y = x := by
              have h := HGX.out
              rw [hxx] at h
              injection h with h
              exact h.symm
            subst hyx2
            clear hnx hxx hyx
            have hyy : decide (y < y) = false := by simp
            go_upto_region 13 with fail
            refine wp_region_later (by kernel_rfl) (by kernel_rfl) ?_
            repeat (go_big_quiet_step (fail))
            refine wpQuiet_nil ?_
            intro wc hw
            obtain ⟨⟨wc, hx⟩, rfl⟩ := hw
            have HXwc := Lib.hid (HXb.out.trans hx)
            clear hx 
            replace f0 := HXwc.out.cell HF0.out
            have fl0 := lt_of_cell f0
            simp only at fl0 f0
            replace g0 := HXwc.out.cell HG0.out
            have gl0 := lt_of_cell g0
            simp only at gl0 g0
            go_upto_region 15 with fail
            refine wp_region_later (by kernel_rfl) (by kernel_rfl) ?_
            repeat (go_big_quiet_step (fail))
            refine wpQuiet_nil ?_
            intro wd hw
            obtain ⟨⟨wd, hx⟩, rfl⟩ := hw
            have HXwd := Lib.hid (HXwc.out.trans hx)
            clear hx 
            go_wp2
            go_roundw
            case rel => exact ⟨i + 1, q, by omega, hq, rfl, by go_num, atB_next HASF.out HAT.out HFX.out, HXwd.out⟩
            case measure => simp [intOf]; omega
          · have hlt : y < x := by simpa using hyx
            have HLT := Lib.hid hlt
            clear hlt
            go_upto_region 13 with fail
            refine wp_region_later (by kernel_rfl) (by kernel_rfl) ?_
            repeat (go_big_quiet_step (fail))
            refine wpQuiet_nil ?_
            intro wc hw
            obtain ⟨⟨wc, hx⟩, rfl⟩ := hw
            have HXwc := Lib.hid (HXb.out.trans hx)
            clear hx f0 fl0 g0 gl0
            go_wp2
            go_roundw
            case rel => exact ⟨q + 1, by omega, by go_num, atB_step HAT.out HGX.out HFX.out HLT.out, HXwc.out⟩
            case measure => simp [intOf]; omega
        · exact absurd (atB_end HASA.out HSUB.out HAT.out HFX.out (.inl (by rw [HNA.out]; omega))).1 (by rw [HNA.out]; omega)
    · have hie : i = nF := by omega
      clear hie HAT
      have HXW := Lib.hid (HX7.out.trans HXa.out)
      have HCA8 := Lib.hid (HCA7.out.ext HXa.out)
      have HCF8 := Lib.hid (HCF7.out.ext HXa.out)
      clear HXa HX7 HCA7 HCF7
      have hgq : ((gate : Int) % 3) = ((gate % 3 : Nat) : Int) := by omega
      have hdq : (1 + (gate : Int) / 3 % 3) = ((1 + gate / 3 % 3 : Nat) : Int) := by omega
      have hg2 : gate % 3 ≤ 2 := by omega
      have hd3 : 1 ≤ 1 + gate / 3 % 3 ∧ 1 + gate / 3 % 3 ≤ 3 := by omega
      obtain ⟨g, hge⟩ : ∃ y, gate % 3 = y := ⟨_, rfl⟩
      obtain ⟨dt, hde⟩ : ∃ y, 1 + gate / 3 % 3 = y := ⟨_, rfl⟩
      rw [hge] at hgq hg2
      rw [hde] at hdq hd3
      have HGQ := Lib.hid hgq
      have HDQ := Lib.hid hdq
      obtain ⟨hd1, hd3⟩ := hd3
      clear hgq hdq hge hde
      have HRA2 := Lib.hid (HRA.out (g : Int) (dt : Int) (by omega) (by omega))
      have HRF2 := Lib.hid (HRF.out (g : Int) (dt : Int) (by omega) (by omega))
      go_wp2_with fail
      rw [HGQ.out, HDQ.out]
      obtain ⟨w8, hw8⟩ : ∃ y, y = (wa.alloc (.cells #[.slice aa nA ac, .int .i64 (g : Int), .int .i64 (dt : Int)] 40)).alloc (.cells #[.slice fa nF fc, .int .i64 (g : Int), .int .i64 (dt : Int)] 40) := ⟨_, rfl⟩
      rw [← hw8]
      have hx8 : Ext wa w8 := by rw [hw8]; exact ((Ext.refl wa).alloc _).alloc _
      have hr8 : Blk w8 wa.heap.size #[.slice aa nA ac, .int .i64 (g : Int), .int .i64 (dt : Int)] := by rw [hw8]; exact (Blk.new _ _ _).alloc _
      have hq8 : Blk w8 (wa.heap.size + 1) #[.slice fa nF fc, .int .i64 (g : Int), .int .i64 (dt : Int)] := by rw [hw8]; exact Blk.at _ (by simp)
      have HX8 := Lib.hid hx8
      have HR8 := Lib.hid hr8
      have HQ8 := Lib.hid hq8
      clear hw8 hx8 hr8 hq8
      have HFA := Lib.hid (fun W (hx : Ext wa W) => out_Fewest A aa ac (g : Int) dt most W (HCA8.out.ext hx) HRA2.out (by omega))
      have HFF := Lib.hid (fun W (hx : Ext wa W) => out_Fewest F fa fc (g : Int) dt most W (HCF8.out.ext hx) HRF2.out (by omega))
      have HBA := Lib.hid (fun W (hx : Ext wa W) => out_Bogeys A aa ac (g : Int) dt most W (HCA8.out.ext hx) HRA2.out (by omega))
      have HBF := Lib.hid (fun W (hx : Ext wa W) => out_Bogeys F fa fc (g : Int) dt most W (HCF8.out.ext hx) HRF2.out (by omega))
      rw [HNA.out] at HFA HBA
      rw [HNF.out] at HFF HBF
      have HMO : Hid (∀ (i : Nat) (uv yv : Int), i ≤ most → (fewO (g : Int) A most)[i]? = some uv → (fewO (g : Int) F most)[i]? = some yv → 0 ≤ yv → 0 ≤ uv ∧ uv ≤ yv) := Lib.hid (by
        intro i uv yv hi h1 h2 h3
        have e1 := few_at (g := (g : Int)) (beds := A) most hi
        have e2 := few_at (g := (g : Int)) (beds := F) most hi
        rw [List.getD_eq_getElem?_getD, h1] at e1
        rw [List.getD_eq_getElem?_getD, h2] at e2
        simp only [Option.getD_some] at e1 e2
        obtain ⟨k1, k2⟩ := few_mono (g := (g : Int)) HWA.out HSUB.out i (by omega)
        have k3 := (few_ge (g : Int) A HWA.out i).1
        omega)
      have HUL := Lib.hid (fewO_len (g : Int) A most)
      have HYL := Lib.hid (fewO_len (g : Int) F most)
      have HCD : Hid (∀ x ∈ bogO (rwsO (g : Int) A most dt) most, x ∈ bogO (rwsO (g : Int) F most dt) most) := Lib.hid (fun x hx => bog_mono (by rw [HNA.out]; exact ha82) (by rw [HNF.out]; exact hf82) HWA.out HSUB.out (by omega) hx)
      have HCA3 := Lib.hid (bogO_asc (rwsO (g : Int) A most dt) most)
      have HDA3 := Lib.hid (bogO_asc (rwsO (g : Int) F most dt) most)
      have hc3 := bogO_le (rwsO (g : Int) A most dt) most
      have hd3l := bogO_le (rwsO (g : Int) F most dt) most
      obtain ⟨UL, hU⟩ : ∃ y, fewO (g : Int) A most = y := ⟨_, rfl⟩
      obtain ⟨YL, hY⟩ : ∃ y, fewO (g : Int) F most = y := ⟨_, rfl⟩
      obtain ⟨CL, hC⟩ : ∃ y, bogO (rwsO (g : Int) A most dt) most = y := ⟨_, rfl⟩
      obtain ⟨DL, hD⟩ : ∃ y, bogO (rwsO (g : Int) F most dt) most = y := ⟨_, rfl⟩
      rw [hU] at HFA HMO HUL
      rw [hY] at HFF HMO HYL
      rw [hC] at HBA HCD HCA3 hc3
      rw [hD] at HBF HCD HDA3 hd3l
      obtain ⟨nC, hnC⟩ : ∃ y, CL.length = y := ⟨_, rfl⟩
      obtain ⟨nD, hnD⟩ : ∃ y, DL.length = y := ⟨_, rfl⟩
      rw [hnC] at hc3
      rw [hnD] at hd3l
      have HNC := Lib.hid hnC
      have HND := Lib.hid hnD
      clear hU hY hC hD hnC hnD HRA2 HRF2 HRA HRF HCA8 HCF8 HASA HASF HSUB HWA HNA HNF
      refine (HFA.out _ HX8.out).mono ?_
      rintro e w9 ⟨v9, rfl, ho9, hx9⟩
      obtain ⟨ua, uc, rfl, hu9⟩ := OwnI.cells ho9
      rw [HUL.out]
      have HU9 := Lib.hid hu9
      have HX9 := Lib.hid (HX8.out.trans hx9)
      have HR9 := Lib.hid (HR8.out.ext hx9)
      have hq9 := HQ8.out.ext hx9
      have HQ9 := Lib.hid hq9
      have r0 := hq9.cell 0 (v := .slice fa nF fc) rfl
      have r1 := hq9.cell 1 (v := .int .i64 (g : Int)) rfl
      have r2 := hq9.cell 2 (v := .int .i64 (dt : Int)) rfl
      have rl := hq9.lt
      clear hx9 ho9 hu9 hq9 HX8 HR8 HQ8 HFA
      go_wp2_with fail
      refine (HFF.out _ HX9.out).mono ?_
      rintro e w10 ⟨v10, rfl, ho10, hx10⟩
      obtain ⟨ya, yc, rfl, hy10⟩ := OwnI.cells ho10
      rw [HYL.out]
      have HU10 := Lib.hid (HU9.out.ext hx10)
      have HY10 := Lib.hid hy10
      have HX10 := Lib.hid (HX9.out.trans hx10)
      have HQ10 := Lib.hid (HQ9.out.ext hx10)
      have hr10 := HR9.out.ext hx10
      have r0 := hr10.cell 0 (v := .slice aa nA ac) rfl
      have r1 := hr10.cell 1 (v := .int .i64 (g : Int)) rfl
      have r2 := hr10.cell 2 (v := .int .i64 (dt : Int)) rfl
      have rl := hr10.lt
      clear hx10 ho10 hy10 hr10 HX9 HR9 HQ9 HU9 HFF
      go_wp2_with fail
      refine (HBA.out _ HX10.out).mono ?_
      rintro e w11 ⟨v11, rfl, ho11, hx11⟩
      obtain ⟨ca, cc, rfl, hc11⟩ := OwnI.cells ho11
      rw [HNC.out]
      have HU11 := Lib.hid (HU10.out.ext hx11)
      have HY11 := Lib.hid (HY10.out.ext hx11)
      have HC11 := Lib.hid hc11
      have HX11 := Lib.hid (HX10.out.trans hx11)
      have hq11 := HQ10.out.ext hx11
      have r0 := hq11.cell 0 (v := .slice fa nF fc) rfl
      have r1 := hq11.cell 1 (v := .int .i64 (g : Int)) rfl
      have r2 := hq11.cell 2 (v := .int .i64 (dt : Int)) rfl
      have rl := hq11.lt
      clear hx11 ho11 hc11 hq11 HX10 HQ10 HU10 HY10 HBA
      go_wp2_with fail
      refine (HBF.out _ HX11.out).mono ?_
      rintro e w12 ⟨v12, rfl, ho12, hx12⟩
      obtain ⟨da, dc, rfl, hd12⟩ := OwnI.cells ho12
      rw [HND.out]
      have HU12 := Lib.hid (HU11.out.ext hx12)
      have HY12 := Lib.hid (HY11.out.ext hx12)
      have HC12 := Lib.hid (HC11.out.ext hx12)
      have HD12 := Lib.hid hd12
      have HX12 := Lib.hid (HX11.out.trans hx12)
      clear hx12 ho12 hd12 HX11 HU11 HY11 HC11 HBF r0 r1 r2 rl
      go_upto_region 27 with fail
      go_loopw [23] (fun iv wr => ∃ q : Nat, q ≤ most + 1 ∧ iv = .int .i64 q ∧ Ext w12 wr) (fun iv _ => most + 1 - (intOf iv).toNat)
      case atStart => exact ⟨0, by omega, rfl, Ext.refl _⟩
      case round =>
        obtain ⟨q, hq, rfl, hx⟩ := hrel
        obtain ⟨wb, rfl⟩ : ∃ y, y = wr := ⟨_, rfl⟩
        have HXb := Lib.hid hx
        clear hx
        by_cases hlq : q < most + 1
        · have hlq' : (q : Int) < (most : Int) + 1 := by omega
          have hqu : q < UL.length := by rw [HUL.out]; exact hlq
          have hqy : q < YL.length := by rw [HYL.out]; exact hlq
          obtain ⟨ub, uo, rfl, u0⟩ := HU12.out q hqu
          obtain ⟨yb, yo, rfl, y0⟩ := HY12.out q hqy
          have hmo := HMO.out q _ _ (by omega) (List.getElem?_eq_getElem hqu) (List.getElem?_eq_getElem hqy)
          obtain ⟨uv, huv⟩ : ∃ y, UL[q] = y := ⟨_, rfl⟩
          obtain ⟨yv, hyv⟩ : ∃ y, YL[q] = y := ⟨_, rfl⟩
          rw [huv] at u0 hmo
          rw [hyv] at y0 hmo
          replace u0 := HXb.out.cell u0
          replace y0 := HXb.out.cell y0
          have ul0 := lt_of_cell u0
          have yl0 := lt_of_cell y0
          simp only at ul0 yl0 u0 y0
          clear huv hyv hqu hqy
          cases hy0 : decide (0 ≤ yv)
          · clear hmo
            go_upto_region 29 with fail
            refine wp_region_later (by kernel_rfl) (by kernel_rfl) ?_
            repeat (go_big_quiet_step (fail))
            refine wpQuiet_nil ?_
            intro wc hw
            obtain ⟨⟨wc, hx⟩, rfl⟩ := hw
            have HXwc := Lib.hid (HXb.out.trans hx)
            clear hx u0 y0 ul0 yl0
            go_wp2
            go_roundw
            case rel => exact ⟨q + 1, by omega, by go_num, HXwc.out⟩
            case measure => simp [intOf]; omega
          · have h0y : 0 ≤ yv := by simpa using hy0
            obtain ⟨k1, k2⟩ := hmo h0y
            have hu0 : decide (uv < 0) = false := by simp; omega
            have huy : decide (yv < uv) = false := by simp; omega
            clear hmo h0y k1 k2
            go_upto_region 29 with fail
            refine wp_region_later (by kernel_rfl) (by kernel_rfl) ?_
            repeat (go_big_quiet_step (fail))
            refine wpQuiet_nil ?_
            intro wc hw
            obtain ⟨⟨wc, hx⟩, rfl⟩ := hw
            have HXwc := Lib.hid (HXb.out.trans hx)
            clear hx u0 y0 ul0 yl0
            go_wp2
            go_roundw
            case rel => exact ⟨q + 1, by omega, by go_num, HXwc.out⟩
            case measure => simp [intOf]; omega
        · have HXv := Lib.hid (HXW.out.trans (HX12.out.trans HXb.out))
          have HCz := Lib.hid (HC12.out.ext HXb.out)
          have HDz := Lib.hid (HD12.out.ext HXb.out)
          clear HXb HXW HX12 HC12 HD12 HU12 HY12 HMO
          go_upto_region 33 with fail
          go_loopw [13, 24] (fun av iv wr => ∃ (i at' : Nat), i ≤ nC ∧ at' ≤ nD ∧ av = .int .i64 at' ∧ iv = .int .i64 i ∧ AtB DL CL i at' ∧ Ext wb wr) (fun _ iv _ => nC - (intOf iv).toNat)
          case atStart => exact ⟨0, 0, by omega, by omega, rfl, rfl, atB_zero _ _, Ext.refl _⟩
          case round =>
            rename_i av iv
            obtain ⟨i, at', hi, ha, rfl, rfl, hat, hx⟩ := hrel
            obtain ⟨wa, rfl⟩ : ∃ y, y = wr := ⟨_, rfl⟩
            have HAT := Lib.hid hat
            have HXa := Lib.hid hx
            clear hat hx
            by_cases hli : i < nC
            · have hli' : (i : Int) < (nC : Int) := by omega
              have hil : i < CL.length := by rw [HNC.out]; exact hli
              obtain ⟨fb, fo, rfl, f0⟩ := HCz.out i hil
              have hfx : CL[i]? = some CL[i] := List.getElem?_eq_getElem hil
              obtain ⟨x, hx⟩ : ∃ y, CL[i] = y := ⟨_, rfl⟩
              rw [hx] at f0 hfx
              have HFX := Lib.hid hfx
              have HF0 := Lib.hid f0
              clear hx hil hfx f0
              go_wp2
              go_loopw [13] (fun av wr => ∃ at' : Nat, at' ≤ nD ∧ av = .int .i64 at' ∧ AtB DL CL i at' ∧ Ext wb wr) (fun av _ => nD - (intOf av).toNat)
              case atStart => exact ⟨at', ha, rfl, HAT.out, HXa.out⟩
              case round =>
                rename_i av
                obtain ⟨q, hq, rfl, hat, hx⟩ := hrel
                obtain ⟨wb, rfl⟩ : ∃ y, y = wr := ⟨_, rfl⟩
                clear HAT
                have HAT := Lib.hid hat
                have HXb := Lib.hid hx
                clear hat hx
                have f0 := HXb.out.cell HF0.out
                have fl0 := lt_of_cell f0
                simp only at fl0 f0
                by_cases hlq : q < nD
                · have hlq' : (q : Int) < (nD : Int) := by omega
                  have hqe : ((q : Int) == (nD : Int)) = false := by simp; omega
                  have hql : q < DL.length := by rw [HND.out]; exact hlq
                  obtain ⟨gb, go, rfl, g0⟩ := HDz.out q hql
                  have hgx : DL[q]? = some DL[q] := List.getElem?_eq_getElem hql
                  obtain ⟨y, hy⟩ : ∃ y, DL[q] = y := ⟨_, rfl⟩
                  rw [hy] at g0 hgx
                  have HGX := Lib.hid hgx
                  have HG0 := Lib.hid g0
                  replace g0 := HXb.out.cell g0
                  have gl0 := lt_of_cell g0
                  simp only at gl0 g0
                  clear hy hql hgx
                  cases hyx : decide (y < x)
                  · have hnx : ¬ y < x := by simpa using hyx
                    obtain ⟨-, hxx⟩ := atB_end HDA3.out HCD.out HAT.out HFX.out (.inr ⟨y, HGX.out, hnx⟩)
                    have hyx2 : y = x := by
                      have h := HGX.out
                      rw [hxx] at h
                      injection h with h
                      exact h.symm
                    subst hyx2
                    clear hnx hxx hyx
                    have hyy : decide (y < y) = false := by simp
                    go_upto_region 35 with fail
                    refine wp_region_later (by kernel_rfl) (by kernel_rfl) ?_
                    repeat (go_big_quiet_step (fail))
                    refine wpQuiet_nil ?_
                    intro wc hw
                    obtain ⟨⟨wc, hx⟩, rfl⟩ := hw
                    have HXwc := Lib.hid (HXb.out.trans hx)
                    clear hx 
                    replace f0 := HXwc.out.cell HF0.out
                    have fl0 := lt_of_cell f0
                    simp only at fl0 f0
                    replace g0 := HXwc.out.cell HG0.out
                    have gl0 := lt_of_cell g0
                    simp only at gl0 g0
                    go_upto_region 37 with fail
                    refine wp_region_later (by kernel_rfl) (by kernel_rfl) ?_
                    repeat (go_big_quiet_step (fail))
                    refine wpQuiet_nil ?_
                    intro wd hw
                    obtain ⟨⟨wd, hx⟩, rfl⟩ := hw
                    have HXwd := Lib.hid (HXwc.out.trans hx)
                    clear hx 
                    go_wp2
                    go_roundw
                    case rel => exact ⟨i + 1, q, by omega, hq, rfl, by go_num, atB_next HCA3.out HAT.out HFX.out, HXwd.out⟩
                    case measure => simp [intOf]; omega
                  · have hlt : y < x := by simpa using hyx
                    have HLT := Lib.hid hlt
                    clear hlt
                    go_upto_region 35 with fail
                    refine wp_region_later (by kernel_rfl) (by kernel_rfl) ?_
                    repeat (go_big_quiet_step (fail))
                    refine wpQuiet_nil ?_
                    intro wc hw
                    obtain ⟨⟨wc, hx⟩, rfl⟩ := hw
                    have HXwc := Lib.hid (HXb.out.trans hx)
                    clear hx f0 fl0 g0 gl0
                    go_wp2
                    go_roundw
                    case rel => exact ⟨q + 1, by omega, by go_num, atB_step HAT.out HGX.out HFX.out HLT.out, HXwc.out⟩
                    case measure => simp [intOf]; omega
                · exact absurd (atB_end HDA3.out HCD.out HAT.out HFX.out (.inl (by rw [HND.out]; omega))).1 (by rw [HND.out]; omega)
            · have hie : i = nC := by omega
              clear hie HAT
              have HXe := Lib.hid (HXv.out.trans HXa.out)
              go_wp2_with fail
              refine (arm_KnownOut _).mono ?_
              rintro e wf ⟨rfl, hxf⟩
              go_wp2
              go_ret
              exact ⟨rfl, HXe.out.trans hxf⟩
theorem law_TopBoardOut (x0 x1 x2 x3 y0 y1 y2 : Int) (w : World) (h0 : 0 ≤ x0 ∧ x0 ≤ 255) (h1 : 0 ≤ x1 ∧ x1 ≤ 255) (h2 : 0 ≤ x2 ∧ x2 ≤ 255) (h3 : 0 ≤ x3 ∧ x3 ≤ 255) (k0 : 0 ≤ y0 ∧ y0 ≤ 255) (k1 : 0 ≤ y1 ∧ y1 ≤ 255) (k2 : 0 ≤ y2 ∧ y2 ≤ 255) :
    Calls Try.prog 3 #[.agg #[.int .u8 x0, .int .u8 x1, .int .u8 x2, .int .u8 x3, .int .u8 y0, .int .u8 y1, .int .u8 y2]] w fun e w' => e = .returned (.bool true) ∧ Ext w w' := by
  obtain ⟨n0, rfl⟩ := Int.eq_ofNat_of_zero_le h0.1
  obtain ⟨n1, rfl⟩ := Int.eq_ofNat_of_zero_le h1.1
  obtain ⟨n2, rfl⟩ := Int.eq_ofNat_of_zero_le h2.1
  obtain ⟨n3, rfl⟩ := Int.eq_ofNat_of_zero_le h3.1
  obtain ⟨m0, rfl⟩ := Int.eq_ofNat_of_zero_le k0.1
  obtain ⟨m1, rfl⟩ := Int.eq_ofNat_of_zero_le k1.1
  obtain ⟨m2, rfl⟩ := Int.eq_ofNat_of_zero_le k2.1
  exact board_out (fun | 0 => n0 | 1 => n1 | 2 => n2 | 3 => n3 | _ => 0) m0 m1 m2 w (fun k => by split <;> omega) (by omega) (by omega) (by omega)
end Go.Proofs.Ytimhjdloiicbkaa
