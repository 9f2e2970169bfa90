/-
  Package board: isWire.
-/
import Derived.Test.YtpifdeglhalefaaBoH
namespace Go.Proofs.Ytpifdeglhalefaa
open Go.RowKit Go.Shelf
attribute [local go_sem] Oper.semAt_some
structure GoodB (b : Brd) : Prop where
  small : SmallB b
  wire : 0 ≤ b.wire ∧ b.wire ≤ 20
  rad : ∀ x ∈ b.radii, 0 ≤ x ∧ x ≤ 5000
  pts : ∀ p ∈ b.lines, p.ok
  ptl : 0 < b.lines.length
  num : ∀ n ∈ b.nums, 1 ≤ n ∧ n ≤ 20
  len : b.nums.length = b.lines.length
  fac : ∀ r ∈ b.rings, 0 ≤ r.factor ∧ r.factor ≤ 4
  rgs : 0 < b.rings.length
theorem radB_all (wire : Int) (hw : 0 ≤ wire) : ∀ (l : List Int) (a : Int), -wire ≤ a → radB wire a l = true → ∀ x ∈ l, 0 ≤ x ∧ x ≤ 5000
  | [], _, _, _, _, hx => by cases hx
  | y :: l, a, ha, h, x, hx => by
    simp only [radB, Bool.and_eq_true] at h
    have h1 := ins_one.1 h.1
    rcases List.mem_cons.1 hx with rfl | hx
    · omega
    · exact radB_all wire hw l y (by omega) h.2 x hx
theorem goodB_of {b : Brd} (hs : SmallB b) (h : goodB b = true) : GoodB b := by
  simp only [goodB, ringsB, linesB, numsB, numsTo, Bool.and_eq_true, Bool.not_eq_true', decide_eq_true_eq, List.any_eq_false, List.all_eq_true] at h
  obtain ⟨⟨h0, hw, hf, hr⟩, ⟨hl, hp, -⟩, ⟨hn, -⟩, hnl⟩ := h
  have hw := ins_one.1 hw
  exact ⟨hs, hw, radB_all b.wire hw.1 _ _ (by omega) hr, fun p hm => ok_of_bad (by simpa using hp p hm), by omega, fun n hm => ins_one.1 (hn n hm), hnl, fun r hm => by have := hf r hm; simp only [Bool.not_eq_false] at this; exact ins_one.1 this, by cases hb : b.rings with
    | nil => rw [hb] at h0; simp at h0
    | cons a l => simp⟩
theorem Chg.grown {S : Nat → Prop} {a w w' : World} {row : Option Nat} (h : Chg S a w) (hg : w.grownBy w' row) (hr : ∀ k, row = some k → a.heap.size ≤ k) : Chg S a w' :=
  ⟨hg.os.trans h.os, hg.tape.trans h.tape, hg.output.trans h.output, Nat.le_trans h.size hg.size, fun k hk hs => (hg.block k (Nat.lt_of_lt_of_le hk h.size) (fun e => by have := hr k e.symm; omega)).trans (h.block k hk hs)⟩
def nearP (wire q r : Int) : Bool := ins ((r - wire) * (r - wire)) ((r + wire) * (r + wire)) [q]
def radLast (b : Brd) : Int := b.radii.getLast?.getD 0
def onWire (b : Brd) (d : Pt) : Bool := decide (b.wire ≠ 0) && (b.radii.any (nearP b.wire (dotP d d)) || (ins (b.bull * b.bull) (radLast b * radLast b) [dotP d d] && b.lines.any (wireP b.wire d)))
theorem enters_isWire1 : Enters Try.prog 83 := enters_of Try.func83 (by kernel_rfl) rfl
set_option maxRecDepth 100000 in
set_option maxHeartbeats 2000000 in
theorem brd_isWire (v : BrdV) (b : Brd) (d : Pt) (w : World) (h : BrdAt w v b) (hg : GoodB b) (hd : d.ok) :
    Calls Try.prog 51 #[.agg (v.cells b), d.agg] w fun e w' => e = .returned (.bool (onWire b d)) ∧ Ext w w' := by
  refine (callsIn_wide (n := 3)).1 ?_
  have HSQ := Lib.hid (fun W => brd_square d W hd)
  have hq0 := dot_small hd hd
  obtain ⟨rb, hrb⟩ : ∃ c, onWire b d = c := ⟨_, rfl⟩
  rw [hrb]
  obtain ⟨q, hq⟩ : ∃ c, dotP d d = c := ⟨_, rfl⟩
  have hE : rb = (decide (b.wire ≠ 0) && (b.radii.any (nearP b.wire q) || (ins (b.bull * b.bull) (radLast b * radLast b) [q] && b.lines.any (wireP b.wire d)))) := by rw [← hrb, ← hq]; rfl
  rw [hq] at HSQ hq0
  have HRB := Lib.hid hE
  have HB := Lib.hid h
  have HG := Lib.hid hg
  have HD := Lib.hid hd
  have hlen := hg.small.r
  have hlenl := hg.small.l
  obtain ⟨hw0, hw1⟩ := hg.wire
  obtain ⟨eye, bull, rings, lines, nums, wire⟩ := b
  obtain ⟨ra, la, na, rc, lc, nc⟩ := v
  obtain ⟨dx, dy⟩ := d
  unfold Pt.agg at *
  unfold BrdV.cells
  simp only at hlen hlenl hw0 hw1 ⊢
  clear hrb h hg hE hq hd
  refine callsIn_of_wp_marks Try.func51 rfl trivial ?_ rfl
  simp only [Try.ntmps51, List.size_toArray, List.length_cons, List.length_nil, Nat.reduceAdd, Nat.reduceSub, Array.replicate_succ, Array.replicate_zero, List.push_toArray, List.append_toArray, List.nil_append, List.cons_append]
  by_cases h0 : wire = 0
  · subst h0
    gi_wp2
    have e : rb = false := by rw [HRB.out]; simp
    subst e
    refine ret_m (v := .bool false) rfl (by simp [results, Try.results51, go_sem]) ⟨rfl, (((Ext.refl w).alloc _).alloc _).alloc _⟩
  have h0' : (wire == 0) = false := by simpa using h0
  gi_wp2_with fail
  refine ⟨trivial, (callsIn_wide.2 (HSQ.out _)).mono ?_⟩
  rintro e w1 ⟨rfl, hx1⟩
  have hx := Ext.trans ((((Ext.refl w).alloc _).alloc _).alloc _) hx1
  have hb1 : Blk w1 w.heap.size #[.int .i64 eye, .int .i64 bull, .slice ra rings.length rc, .slice la lines.length lc, .slice na nums.length nc, .int .i64 wire] := (((Blk.new w _ _).alloc _).alloc _).ext hx1
  have hd1 : Blk w1 (w.heap.size + 1) #[.int .i64 dx, .int .i64 dy] := ((Blk.at _ (by simp)).alloc _).ext hx1
  have hr1 : Blk w1 (w.heap.size + 1 + 1) #[.bool false] := (Blk.at _ (by simp)).ext hx1
  have m0 := hb1.cell 0 (v := .int .i64 eye) rfl
  have m1 := hb1.cell 1 (v := .int .i64 bull) rfl
  have m2 := hb1.cell 2 (v := .slice ra rings.length rc) rfl
  have m3 := hb1.cell 3 (v := .slice la lines.length lc) rfl
  have m4 := hb1.cell 4 (v := .slice na nums.length nc) rfl
  have m5 := hb1.cell 5 (v := .int .i64 wire) rfl
  have hml := hb1.lt
  have hrl := hr1.lt
  clear hx1
  gi_wp2_with fail
  refine ⟨trivial, (board_radii Fence.wide _ trivial rfl ⟨ra, la, na, rc, lc, nc⟩ ⟨eye, bull, rings, lines, nums, wire⟩ _).mono ?_⟩
  rintro e w3 ⟨rfl, hw3⟩
  gi_wp2_with fail
  rw [← hw3]
  have hsz3 : w3.heap.size = w1.heap.size + 1 + 1 + 1 := by rw [hw3]; simp
  have hx13 : Ext w1 w3 := by rw [hw3]; exact (((Ext.refl w1).alloc _).alloc _).alloc _
  have hq3 : Blk w3 w1.heap.size #[.int .i64 q] := by rw [hw3]; exact ((Blk.new w1 _ _).alloc _).alloc _
  have hl3 : Blk w3 (w1.heap.size + 1) #[.int .i64 0] := by rw [hw3]; exact (Blk.at _ (by simp)).alloc _
  have hb3 : Blk w3 (w1.heap.size + 1 + 1) #[.int .i64 eye, .int .i64 bull, .slice ra rings.length rc, .slice la lines.length lc, .slice na nums.length nc, .int .i64 wire] := by rw [hw3]; exact Blk.at _ (by simp)
  have hX3 := hx.trans hx13
  have hRW : RadW (w1.heap.size + 1 + 1) ⟨eye, bull, rings, lines, nums, wire⟩ ra rc w3 := ⟨hb3.cell 0 rfl, hb3.cell 1 rfl, hb3.cell 2 rfl, HB.out.rings.ext hX3⟩
  have ht3 := hb1.ext hx13
  have hd3 := hd1.ext hx13
  have hr3 := hr1.ext hx13
  have hwz : w.heap.size + 1 + 1 < w1.heap.size := hrl
  have hlow : ∀ k o, ra = some ⟨k, o, none⟩ → 0 < rings.length → k < w.heap.size := by
    intro k o e h0
    obtain ⟨b', o', e', c0, -⟩ := HB.out.rings 0 h0
    have e'' : ra = some ⟨b', o', none⟩ := e'
    rw [e] at e''
    cases e''
    exact lt_of_cell c0
  have HT := Lib.hid ht3
  have HDB := Lib.hid hd3
  have HR := Lib.hid hr3
  have HQ := Lib.hid hq3
  have HX3 := Lib.hid hX3
  have l0 := hl3.cell 0 (v := .int .i64 0) rfl
  have l1 := hl3.frozen 0
  clear hw3 hb1 hd1 hr1 m0 m1 m2 m3 m4 m5 hx13 hq3 hl3 hb3 hX3 ht3 hd3 hr3 hx
  have hrp : 0 < rings.length := HG.out.rgs
  refine wpIn_rangeFunc_ownF (α := { x : Int // 0 ≤ x ∧ x ≤ 5000 }) rfl (by decide) (gf := 106) (lb := #[.pointer (some ⟨w1.heap.size + 1 + 1, 0, none⟩)]) rfl trivial (enters_of Try.func106 (by kernel_rfl) rfl)
    (radii_stopsS Fence.wide _ trivial rfl (by decide) (w1.heap.size + 1 + 1) ⟨eye, bull, rings, lines, nums, wire⟩ ra rc (fun A B => ∀ k, k < w3.heap.size → k ≠ w1.heap.size + 1 → B.heap[k]? = A.heap[k]?) (fun h k hk => h k (by
      rcases hk with rfl | ⟨o, e⟩
      · omega
      · have := hlow k o e hrp; omega) (by
      rcases hk with rfl | ⟨o, e⟩
      · omega
      · have := hlow k o e hrp; omega)) w3 hRW hlen (fun x => 0 ≤ x ∧ x ≤ 5000) HG.out.rad)
    (fun h k i h1 h2 => (k i h1 h2).trans (h i h1 h2)) (fun W l o o' hl _ _ _ k hk _ => World.putObj_heap_other (by omega)) (Below.refl _ _) (fun _ => rfl)
    (fun pre W => (∃ lst, lst = (pre.map (·.1)).getLast?.getD 0 ∧ (0 ≤ lst ∧ lst ≤ 5000) ∧ W.cell? ⟨w1.heap.size + 1, 0, none⟩ = some (.int .i64 lst)) ∧ W.frozen? ⟨w1.heap.size + 1, 0, none⟩ = false ∧ (pre.map (·.1)).any (nearP wire q) = false ∧ Chg (· = w1.heap.size + 1) w3 W)
    (fun c pre W => c = .ret ∧ W.cell? ⟨w.heap.size + 1 + 1, 0, none⟩ = some (.bool true) ∧ (pre.map (·.1)).any (nearP wire q) = true ∧ Ext w W)
    ?hI ?hIx ⟨⟨0, rfl, ⟨by omega, by omega⟩, l0⟩, l1, rfl, Chg.refl _ _⟩
    (fun x => { tmps := #[.agg #[.int .i64 eye, .int .i64 bull, .slice ra rings.length rc, .slice la lines.length lc, .slice na nums.length nc, .int .i64 wire], .agg #[.int .i64 dx, .int .i64 dy], .pointer (some ⟨w.heap.size, 0, none⟩), .pointer (some ⟨w.heap.size + 1, 0, none⟩), .pointer (some ⟨w.heap.size + 1 + 1, 0, none⟩), .pointer (some ⟨w1.heap.size, 0, none⟩), .pointer (some ⟨w1.heap.size + 1, 0, none⟩), .int .i64 x.1, .pointer (some ⟨w.heap.size, 0, none⟩), .pointer (some ⟨w.heap.size, 5, none⟩), .int .i64 wire, .bool false, .agg #[.int .i64 dx, .int .i64 dy], .int .i64 q, .pointer (some ⟨w.heap.size, 0, none⟩), .agg #[.int .i64 eye, .int .i64 bull, .slice ra rings.length rc, .slice la lines.length lc, .slice na nums.length nc, .int .i64 wire], .func (.func 106) #[] #[.pointer (some ⟨w1.heap.size + 1 + 1, 0, none⟩)], .int .i64 x.1, undef, undef, undef, undef, undef, undef, undef, undef, undef, undef, undef, undef, undef, undef, undef, undef, undef, undef, undef, undef, undef, undef, undef, undef, undef, undef, undef, undef, undef, undef, undef, undef, undef, undef, undef, undef, undef, undef, undef, undef, undef, undef, undef, undef, undef, undef], defers := [] }) ?assign ?body ?done ?stop
  case hI =>
    rintro pre A B row ⟨⟨lst, e1, e2, e3⟩, e4, e8, e9⟩ hg hr
    have hr' := fun r e => (hr r e).2
    exact ⟨⟨lst, e1, e2, cell_kept e3 hg hr'⟩, (frozen_kept e3 hg hr').trans e4, e8, e9.grown hg (fun k e => (hr k e).1)⟩
  case hIx =>
    rintro c pre A B row ⟨e1, e2, e3, e4⟩ hg hr
    exact ⟨e1, cell_kept e2 hg (fun r e => (hr r e).2), e3, Below.grown e4 hg e4.size (fun k e => by have := (hr k e).1; omega)⟩
  case assign =>
    intro l x W K hK
    gi_wp2
    exact hK
  case body =>
    rintro l pre x W ⟨⟨lst, e1, ⟨e20, e21⟩, e3⟩, e4, e8, e9⟩ _
    obtain ⟨x, hx0, hx1⟩ := x
    have hT := HT.out.chg e9 (by omega)
    have hR := HR.out.chg e9 (by omega)
    have t5 := hT.cell 5 (v := .int .i64 wire) rfl
    have q0 := (HQ.out.chg e9 (by omega)).cell 0 (v := .int .i64 q) rfl
    have hl1 := hT.lt
    have hl2 := lt_of_cell q0
    have hl3 := lt_of_cell e3
    simp only at hl2 hl3
    have a0 := mul_small (a := x - wire) (b := x - wire) (by omega) (by omega)
    have a1 := mul_bound (a := x + wire) (b := x + wire) (m := 5020) (n := 5020) (by omega) (by omega)
    have a2 : -25200400 ≤ (x + wire) * (x + wire) := by omega
    have a3 : (x + wire) * (x + wire) ≤ 25200400 := by omega
    obtain ⟨a00, a01⟩ := a0
    have HEX := Lib.hid (Chg.to_ext HX3.out e9 (by intro i hi; omega))
    have H9 := Lib.hid e9
    have HRW := Lib.hid hR
    have hsnoc : ((pre ++ [(⟨x, hx0, hx1⟩ : { x : Int // 0 ≤ x ∧ x ≤ 5000 })]).map (fun x => x.1)).any (nearP wire q) = nearP wire q x := by
      rw [List.map_append, List.any_append, e8, Bool.false_or]; simp
    have HSN := Lib.hid hsnoc
    clear a1 e1 hsnoc e8 e9 hT hR
    simp only
    gi_wp2_with fail
    refine ⟨trivial, CallsIn.inRound l ((callsIn_wide.2 (brd_within_1 _ _ q W _ (by simp))).mono ?_)⟩
    rintro e W1 ⟨rfl, hx1'⟩
    have hC1 := H9.out.ext' hx1'
    have hR1 := HRW.out.ext hx1'
    have r0 := hR1.cell 0 (v := .bool false) rfl
    have r1 := hR1.frozen 0
    have hrl1 := hR1.lt
    have f4 := hx1'.frozen e3 e4
    replace e3 := hx1'.cell e3
    have hl3' := lt_of_cell e3
    simp only at hl3'
    have HX1 := Lib.hid hx1'
    have HC1 := Lib.hid hC1
    clear e4 hx1' hC1 t5 q0 hl2 hl3
    have hn : nearP wire q x = ins ((x - wire) * (x - wire)) ((x + wire) * (x + wire)) [q] := rfl
    rw [← hn]
    cases hin : nearP wire q x
    · rw [hin] at HSN
      gi_wp2
      refine ⟨HX1.out.others.trans (KeepsOthers.setCell _ _ _), fun k hk hne => ?_, ⟨x, by simp, ⟨hx0, hx1⟩, World.cell?_setCell_same' _ _ _ (by rw [e3]; rfl)⟩, ?_, HSN.out, HC1.out.setCell (p := ⟨w1.heap.size + 1, 0, none⟩) (.inr rfl) _⟩
      · exact (Below.heap_setCell W1 ⟨w1.heap.size + 1, 0, none⟩ _ k hne).trans (Below.block HX1.out k (by have := H9.out.size; omega))
      · rw [World.frozen?_setCell]; exact f4
    · rw [hin] at HSN
      gi_wp2
      exact ⟨HX1.out.others.trans (KeepsOthers.setCell _ _ _), rfl, World.cell?_setCell_same' _ _ _ (by rw [r0]; rfl), HSN.out, (HEX.out.trans HX1.out).setCell (p := ⟨w.heap.size + 1 + 1, 0, none⟩) (by show w.heap.size ≤ w.heap.size + 1 + 1; omega) _⟩
  case done =>
    rintro D xs W hD hxs ⟨⟨lst, e1, ⟨e20, e21⟩, e3⟩, e4, e8, e9⟩ hK
    rw [hxs] at e1 e8
    have hT := HT.out.chg e9 (by omega)
    have hR := HR.out.chg e9 (by omega)
    have hDB := HDB.out.chg e9 (by omega)
    have t1 := hT.cell 1 (v := .int .i64 bull) rfl
    have t3 := hT.cell 3 (v := .slice la lines.length lc) rfl
    have q0 := (HQ.out.chg e9 (by omega)).cell 0 (v := .int .i64 q) rfl
    have r0 := hR.cell 0 (v := .bool false) rfl
    have r1 := hR.frozen 0
    have hl1 := hT.lt
    have hl2 := lt_of_cell q0
    have hl3 := lt_of_cell e3
    have hl4 := hR.lt
    simp only at hl2 hl3
    have hbl : 0 ≤ bull ∧ bull ≤ 5000 := HG.out.rad bull (by simp [Brd.radii])
    have a0 := mul_small (a := bull) (b := bull) (by omega) (by omega)
    have a1 := mul_small (a := lst) (b := lst) (by omega) (by omega)
    obtain ⟨a00, a01⟩ := a0
    obtain ⟨a10, a11⟩ := a1
    have hEX := Chg.to_ext HX3.out e9 (by intro i hi; omega)
    have HEX := Lib.hid hEX
    have HTB := Lib.hid hT
    have HDB' := Lib.hid hDB
    have HRR := Lib.hid hR
    have HRB2 : rb = (ins (bull * bull) (lst * lst) [q] && lines.any (wireP wire ⟨dx, dy⟩)) := by
      rw [HRB.out, e8, Bool.false_or, e1]
      simp [h0, radLast]
    have HRB3 := Lib.hid HRB2
    have HLP := Lib.hid (HB.out.lines.ext hEX)
    clear hT hR hDB e1 e8 e9 hEX HRB2
    have hd0 := HD.out
    have hst : ∀ (u : Bool) (W' : World), Ext W W' → rb = u → Ext w ((W'.setCell ⟨w.heap.size + 1 + 1, 0, none⟩ (.bool u)).putObj D (.deferred none)) ∧ (W'.setCell ⟨w.heap.size + 1 + 1, 0, none⟩ (.bool u)).heap[D]? = some (.deferred (some [])) ∧ ((W'.setCell ⟨w.heap.size + 1 + 1, 0, none⟩ (.bool u)).putObj D (.deferred none)).cell? ⟨w.heap.size + 1 + 1, 0, none⟩ = some (.bool rb) := by
      rintro u W' hx' rfl
      have hc := (HRR.out.ext hx').cell 0 (v := .bool false) rfl
      have hr := World.cell?_setCell_same' W' ⟨w.heap.size + 1 + 1, 0, none⟩ (.bool rb) (by rw [hc]; rfl)
      have hK' : (W'.setCell ⟨w.heap.size + 1 + 1, 0, none⟩ (.bool rb)).heap[D]? = some (.deferred (some [])) := (KeepsOthers.setCell W' ⟨w.heap.size + 1 + 1, 0, none⟩ (.bool rb)).same D _ (hx'.heap hK) rfl
      exact ⟨ext_put ((HEX.out.trans hx').setCell (p := ⟨w.heap.size + 1 + 1, 0, none⟩) (by show w.heap.size ≤ w.heap.size + 1 + 1; omega) _) (by omega) _, hK', cell_put hr hK' rfl (.deferred none)⟩
    have HST := Lib.hid hst
    clear hst
    gi_wp2_with fail
    refine ⟨trivial, (callsIn_wide.2 (brd_within_1 _ _ q W _ (by simp))).mono ?_⟩
    rintro e W1 ⟨rfl, hx1⟩
    replace t3 := hx1.cell t3
    replace r0 := hx1.cell r0
    have hr1 := HRR.out.ext hx1
    have r1' := hr1.frozen 0
    have hl4' := hr1.lt
    have hl1' := (HTB.out.ext hx1).lt
    have HX1 := Lib.hid hx1
    clear hx1 t1 e3 e4 q0 hK r1 hr1
    cases hin : ins (bull * bull) (lst * lst) [q]
    · rw [hin, Bool.false_and] at HRB3
      obtain ⟨s1, s2, s3⟩ := HST.out false W1 HX1.out HRB3.out
      have S1 := Lib.hid s1
      have S2 := Lib.hid s2
      have S3 := Lib.hid s3
      clear s1 s2 s3
      gi_wp2
      refine ⟨trivial, ?_⟩
      gi_wp2
      exact ret_m1 (v := .bool rb) rfl S2.out (by simp [results, Try.results51, go_sem, S3.out]) ⟨rfl, S1.out⟩
    · rw [hin, Bool.true_and] at HRB3
      gi_wp2_with fail
      refine ⟨trivial, (callsIn_wide.2 (containsFunc_pb 83 #[.pointer (some ⟨w.heap.size + 1, 0, none⟩), .pointer (some ⟨w.heap.size, 0, none⟩)] enters_isWire1 (wireP wire ⟨dx, dy⟩) lines la lc W1 (HLP.out.ext HX1.out) (by omega) (fun x hx W2 hx2 => wire1 x ⟨dx, dy⟩ (w.heap.size + 1) w.heap.size ⟨ra, la, na, rc, lc, nc⟩ ⟨eye, bull, rings, lines, nums, wire⟩ W2 (HG.out.pts x hx) HD.out ⟨hw0, hw1⟩ ((HDB'.out.ext HX1.out).ext hx2) ((HTB.out.ext HX1.out).ext hx2)))).mono ?_⟩
      rintro e W2 ⟨rfl, hx2⟩
      replace r0 := hx2.cell r0
      have r1'' := ((HRR.out.ext HX1.out).ext hx2).frozen 0
      have hl5 := ((HRR.out.ext HX1.out).ext hx2).lt
      obtain ⟨s1, s2, s3⟩ := HST.out _ W2 (HX1.out.trans hx2) HRB3.out
      rw [← HRB3.out] at s1 s2 s3 ⊢
      have S1 := Lib.hid s1
      have S2 := Lib.hid s2
      have S3 := Lib.hid s3
      clear s1 s2 s3 hx2 t3 r1'
      gi_wp2
      exact ret_m1 (v := .bool rb) rfl S2.out (by simp [results, Try.results51, go_sem, S3.out]) ⟨rfl, S1.out⟩
  case stop =>
    rintro D c pre W hD hp ⟨rfl, e2, e3, e4⟩ hK
    have e : rb = true := by
      rw [HRB.out]
      obtain ⟨t, ht⟩ := hp
      have : (Brd.radii ⟨eye, bull, rings, lines, nums, wire⟩).any (nearP wire q) = true := by rw [← ht, List.any_append, e3, Bool.true_or]
      rw [this]
      simp [h0]
    subst e
    have hr' := cell_put e2 hK rfl (.deferred none)
    have hxR : Ext w (W.putObj D (.deferred none)) := ext_put e4 (by omega) _
    have HR' := Lib.hid hr'
    have HXR := Lib.hid hxR
    clear hr' hxR
    gi_wp2
    exact ret_m1 (v := .bool true) rfl hK (by simp [results, Try.results51, go_sem, HR'.out]) ⟨rfl, HXR.out⟩
end Go.Proofs.Ytpifdeglhalefaa
