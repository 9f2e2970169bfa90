/-
  The statements of chapter 3: known, and what it calls.
-/
import Derived.Test.YtocnglplhnhllaaJud
import Derived.Test.YtocnglplhnhllaaMaw
import Derived.Test.YtocnglplhnhllaaOfi
namespace Go.Proofs.Ytocnglplhnhllaa
open Go.RowKit Go.BigFrame
attribute [local go_sem] Later.cell Later.frozen Lat.cell Lat.frozen run_eql_pair run_guard_pair
def c101 : Cnt := ⟨101, 0, 1⟩
def two (eq : Bool) : Rul := ⟨[c101, c101], 0, 0, eq⟩
def twoC : Array Value := #[.int .i64 101, .int .i64 0, .int .i64 1, .int .i64 101, .int .i64 0, .int .i64 1]
theorem known1 : visS 101 0 1 true 101 [320, 220] = (⟨101, 0, 2, true, true, false⟩, 0) := by decide
theorem known2 : visS 101 1 0 false 101 [320, 210, 120] = (⟨61, 40, 3, true, false, false⟩, 0) := by decide
def plays3 : List LV := [⟨0, [320, 101, 220]⟩, ⟨1, [320, 101, 220]⟩]
theorem known3 : ((playS (two true) plays3).2.2 = 0 ∧ (playS (two true) plays3).1.over = true) ∧ (playS (two true) plays3).1.round = 1 ∧ (playS (two true) plays3).1.winners.length = 2 := by decide
def plays4 : List LV := [⟨0, [101, 101, 101]⟩, ⟨0, [101, 101, 101]⟩, ⟨1, [120, 120]⟩, ⟨1, [120, 120, 120]⟩]
theorem known4 : ((judS (two false) plays4).1.left = [98, 41] ∧ (judS (two false) plays4).1.next = 0) ∧ (judS (two false) plays4).2.1 = [⟨1, -1, 30⟩, ⟨2, -1, 31⟩] ∧ (judS (two false) plays4).2.2 = 0 := by decide
theorem known5 : offS 3 [[⟨125, 0⟩, ⟨101, 300⟩, ⟨125, 0⟩], [⟨103, 250⟩, ⟨104, 240⟩]] = (2, 0) := by decide
theorem known6 : matS ⟨2, 2, 2, 2, 0⟩ [0, 0, 1, 1, 0, 1, 0, 0] = (⟨2, 1, 3, 1, -1, 0⟩, 0, 0) := by rfl
def plays7 : List LV := [⟨0, [320, 101, 0]⟩, ⟨0, [0, 0, 0]⟩]
theorem known7 : (playS (two false) plays7).2 = (1, 30) := by decide
theorem law_two (eq : Bool) (w : World) : Calls Try.prog 37 #[.bool eq] w fun e w' => ∃ k, e = .returned (.agg #[.slice (some ⟨k, 0, none⟩) 2 2, .int .i64 0, .int .i64 0, .bool eq]) ∧ Blk w' k twoC ∧ w.heap.size ≤ k ∧ Ext w w' := by
  go_enter Try.func37, Try.ntmps37
  go_wp2
  refine bodyPost_ret (v := .agg #[.slice (some ⟨w.heap.size + 2, 0, none⟩) 2 2, .int .i64 0, .int .i64 0, .bool eq]) (by simp [results, Try.results37, go_sem]) rfl ⟨w.heap.size + 2, rfl, ?_, by omega, ?_⟩
  · exact Blk.at _ (by simp)
  · exact (((Ext.refl w).alloc _).alloc _).alloc _
theorem law_beds (a : Option Addr) (n c : Nat) (w : World) : Calls Try.prog 38 #[.slice a n c] w fun e w' => e = .returned (.slice a n c) ∧ w = w' := by
  go_enter Try.func38, Try.ntmps38
  go_wp2
  go_ret
  exact ⟨rfl, rfl⟩
theorem run_rules_counts (x0 x1 x2 x3 : Value) (w : World) : (Instr.field 42 (.agg #[x0, x1, x2, x3]) 0).run Try.prog w = .ok x0 w := by
  simp [Instr.field, part, asAgg, go_sem]
theorem Closed.on {ops : Array Oper} {L : Nat → Bool} (hc : Closed ops L) {i j : Nat} (f : Nat) (hj : L j = true) (h : reach ops i f j = true) : L i = true := by
  cases hi : L i
  · have := hc.off hi f j h; rw [hj] at this; cases this
  · rfl
theorem CellsAt.at2 {w : World} {b : Nat} {x y : Int} (h : Blk w b #[.int .i64 x, .int .i64 y]) : CellsAt w .i64 (some ⟨b, 0, none⟩) [x, y] := fun i hi => by
  match i, hi with
  | 0, _ => exact ⟨b, 0, rfl, h.cell 0 rfl⟩
  | 1, _ => exact ⟨b, 0, rfl, h.cell 1 rfl⟩
theorem CellsAt.at3 {w : World} {b : Nat} {x y z : Int} (h : Blk w b #[.int .i64 x, .int .i64 y, .int .i64 z]) : CellsAt w .i64 (some ⟨b, 0, none⟩) [x, y, z] := fun i hi => by
  match i, hi with
  | 0, _ => exact ⟨b, 0, rfl, h.cell 0 rfl⟩
  | 1, _ => exact ⟨b, 0, rfl, h.cell 1 rfl⟩
  | 2, _ => exact ⟨b, 0, rfl, h.cell 2 rfl⟩
theorem run_equal_pair10 (a b a' b' : Int) (w : World) : (Op.equalIn 10000 69 (.agg #[.int .i64 a, .int .i64 b]) (.agg #[.int .i64 a', .int .i64 b'])).run Try.prog w = .ok (a == a' && b == b') w := run_equal_pair 9998 a b a' b' w
attribute [local go_sem] run_rules_counts run_equal_pair10
theorem CntsAt.two {w : World} {k : Nat} (h : Blk w k twoC) : CntsAt w (some ⟨k, 0, none⟩) [c101, c101] := fun i hi => by
  match i, hi with
  | 0, _ => exact ⟨k, 0, rfl, h.cell 0 rfl, h.cell 1 rfl, h.cell 2 rfl⟩
  | 1, _ => exact ⟨k, 0, rfl, h.cell 3 rfl, h.cell 4 rfl, h.cell 5 rfl⟩
theorem VisAt.mk2 (w : World) (t : TypeId) (v0 v1 : LV) (a0 a1 : Option Addr) (c0 c1 : Nat) (h0 : CellsAt w .i64 a0 v0.beds) (h1 : CellsAt w .i64 a1 v1.beds) {n : Nat} (hn : n = w.heap.size) :
    VisAt (w.alloc (.cells #[.int .i64 v0.player, .slice a0 v0.beds.length c0, .int .i64 v1.player, .slice a1 v1.beds.length c1] t)) (some ⟨n, 0, none⟩) [v0, v1] := fun i hi => by
  have hx := (Ext.refl w).alloc (.cells #[.int .i64 v0.player, .slice a0 v0.beds.length c0, .int .i64 v1.player, .slice a1 v1.beds.length c1] t)
  have hB : Blk (w.alloc (.cells #[.int .i64 v0.player, .slice a0 v0.beds.length c0, .int .i64 v1.player, .slice a1 v1.beds.length c1] t)) n #[.int .i64 v0.player, .slice a0 v0.beds.length c0, .int .i64 v1.player, .slice a1 v1.beds.length c1] := Blk.at n hn
  match i, hi with
  | 0, _ => exact ⟨n, 0, a0, c0, rfl, hB.cell 0 rfl, hB.cell 1 rfl, h0.ext hx⟩
  | 1, _ => exact ⟨n, 0, a1, c1, rfl, hB.cell 2 rfl, hB.cell 3 rfl, h1.ext hx⟩
theorem VisAt.mk4 (w : World) (t : TypeId) (v0 v1 v2 v3 : LV) (a0 a1 a2 a3 : Option Addr) (c0 c1 c2 c3 : Nat) (h0 : CellsAt w .i64 a0 v0.beds) (h1 : CellsAt w .i64 a1 v1.beds) (h2 : CellsAt w .i64 a2 v2.beds) (h3 : CellsAt w .i64 a3 v3.beds) {n : Nat} (hn : n = w.heap.size) :
    VisAt (w.alloc (.cells #[.int .i64 v0.player, .slice a0 v0.beds.length c0, .int .i64 v1.player, .slice a1 v1.beds.length c1, .int .i64 v2.player, .slice a2 v2.beds.length c2, .int .i64 v3.player, .slice a3 v3.beds.length c3] t)) (some ⟨n, 0, none⟩) [v0, v1, v2, v3] := fun i hi => by
  have hx := (Ext.refl w).alloc (.cells #[.int .i64 v0.player, .slice a0 v0.beds.length c0, .int .i64 v1.player, .slice a1 v1.beds.length c1, .int .i64 v2.player, .slice a2 v2.beds.length c2, .int .i64 v3.player, .slice a3 v3.beds.length c3] t)
  have hB : Blk (w.alloc (.cells #[.int .i64 v0.player, .slice a0 v0.beds.length c0, .int .i64 v1.player, .slice a1 v1.beds.length c1, .int .i64 v2.player, .slice a2 v2.beds.length c2, .int .i64 v3.player, .slice a3 v3.beds.length c3] t)) n #[.int .i64 v0.player, .slice a0 v0.beds.length c0, .int .i64 v1.player, .slice a1 v1.beds.length c1, .int .i64 v2.player, .slice a2 v2.beds.length c2, .int .i64 v3.player, .slice a3 v3.beds.length c3] := Blk.at n hn
  match i, hi with
  | 0, _ => exact ⟨n, 0, a0, c0, rfl, hB.cell 0 rfl, hB.cell 1 rfl, h0.ext hx⟩
  | 1, _ => exact ⟨n, 0, a1, c1, rfl, hB.cell 2 rfl, hB.cell 3 rfl, h1.ext hx⟩
  | 2, _ => exact ⟨n, 0, a2, c2, rfl, hB.cell 4 rfl, hB.cell 5 rfl, h2.ext hx⟩
  | 3, _ => exact ⟨n, 0, a3, c3, rfl, hB.cell 6 rfl, hB.cell 7 rfl, h3.ext hx⟩
theorem fits_of {l : List LV} (h : (l.all fun v => (decide (-9223372036854775808 ≤ v.player) && decide (v.player ≤ 9223372036854775807)) && (v.beds.all fun x => decide (-9223372036854775808 ≤ x) && decide (x ≤ 9223372036854775807)) && decide (v.beds.length ≤ 1000)) = true) : ∀ v ∈ l, v.fits := fun v hv => by
  have := List.all_eq_true.1 h v hv
  simp only [Bool.and_eq_true, decide_eq_true_eq, List.all_eq_true] at this
  exact ⟨this.1.1, fun x hx => this.1.2 x hx, by omega⟩
/-- A state whose parts are slices. -/
def StV (lv dv iv : Nat) (next round : Int) (over : Bool) (wv : Nat) (v : Value) : Prop := ∃ a0 c0 a1 c1 a2 c2 a3 c3, v = .agg #[.slice a0 lv c0, .slice a1 dv c1, .slice a2 iv c2, .int .i64 next, .int .i64 round, .bool over, .slice a3 wv c3]
theorem StAt.shape {w : World} {base : Nat} {v : Value} {g : Gm} (h : StAt w base v g) : StV g.left.length g.darts.length g.inn.length g.next g.round g.over g.winners.length v := by
  obtain ⟨lv, dv, iv, wv, rfl, h1, h2, h3, h4⟩ := h
  obtain ⟨a0, c0, rfl, -⟩ := h1.cells
  obtain ⟨a1, c1, rfl, -⟩ := h2.cells
  obtain ⟨a2, c2, rfl⟩ := OwnB.shape h3
  obtain ⟨a3, c3, rfl, -⟩ := h4.cells
  exact ⟨_, _, _, _, _, _, _, _, rfl⟩
theorem play3 (w : World) (k m : Nat) (hb : Blk w k twoC) (hV : VisAt w (some ⟨m, 0, none⟩) plays3) :
    Calls Try.prog 22 #[.agg #[.slice (some ⟨k, 0, none⟩) 2 2, .int .i64 0, .int .i64 0, .bool true], .slice (some ⟨m, 0, none⟩) 2 2] w fun e w' => ∃ v n0 n1 n2 nx at_, e = .returned (.tuple #[v, .int .i64 at_, .int .i64 0]) ∧ StV n0 n1 n2 nx 1 true 2 v ∧ Ext w w' := by
  refine (leg_Play (two true) (some ⟨k, 0, none⟩) 2 plays3 (some ⟨m, 0, none⟩) 2 w (CntsAt.two hb) (by decide) hV (fits_of (by decide)) (by decide) _ rfl).mono ?_
  rintro e w' ⟨v, rfl, hs, hx⟩
  have hk := known3
  have := hs.shape
  rw [hk.1.2, hk.2.1, hk.2.2] at this
  exact ⟨v, _, _, _, _, _, by rw [hk.1.1], this, hx⟩
theorem judge4 (w : World) (k m : Nat) (hb : Blk w k twoC) (hV : VisAt w (some ⟨m, 0, none⟩) plays4) :
    Calls Try.prog 27 #[.agg #[.slice (some ⟨k, 0, none⟩) 2 2, .int .i64 0, .int .i64 0, .bool false], .slice (some ⟨m, 0, none⟩) 4 4] w fun e w' => ∃ (lv lc : Nat) (dv iv wv : Option Addr × Nat) (fb fc n1 n2 n3 : Nat) (rd : Int) (ov : Bool), e = .returned (.tuple #[.agg #[.slice (some ⟨lv, 0, none⟩) 2 lc, .slice dv.1 n1 dv.2, .slice iv.1 n2 iv.2, .int .i64 0, .int .i64 rd, .bool ov, .slice wv.1 n3 wv.2], .slice (some ⟨fb, 0, none⟩) 2 fc, .int .i64 0]) ∧
      w'.cell? ⟨lv, 1, none⟩ = some (.int .i64 41) ∧ (w'.cell? ⟨fb, 0, none⟩ = some (.int .i64 1) ∧ w'.cell? ⟨fb, 1, none⟩ = some (.int .i64 (-1)) ∧ w'.cell? ⟨fb, 2, none⟩ = some (.int .i64 30) ∧ w'.cell? ⟨fb, 5, none⟩ = some (.int .i64 31)) ∧ Ext w w' := by
  refine (leg_Judge (two false) (some ⟨k, 0, none⟩) 2 plays4 (some ⟨m, 0, none⟩) 4 w (CntsAt.two hb) (by decide) hV (fits_of (by decide)) (by decide) _ rfl).mono ?_
  rintro e w' ⟨v, fv, rfl, hs, hf, hx⟩
  obtain ⟨⟨k1, k2⟩, k3, k4⟩ := known4
  obtain ⟨lv, dv, iv, wv, rfl, h1, h2, h3, h4⟩ := hs
  rw [k1] at h1
  rw [k3] at hf
  obtain ⟨a1, c1, rfl, -⟩ := h2.cells
  obtain ⟨a2, c2, rfl⟩ := OwnB.shape h3
  obtain ⟨a3, c3, rfl, -⟩ := h4.cells
  obtain ⟨lb, lc, rfl, -, -⟩ := own_some h1 (by decide)
  obtain ⟨fb, fc, rfl, -, -⟩ := own_some hf (by decide)
  have hcf := fun i u hi => World.ownsRow.cells (w := w') (g := fb) hf rfl i u hi
  have hadd : ∀ i, (⟨fb, 0, none⟩ : Addr).add i = ⟨fb, i, none⟩ := fun i => by unfold Addr.add; split <;> simp_all
  simp only [hadd] at hcf
  exact ⟨lb, lc, (a1, c1), (a2, c2), (a3, c3), fb, fc, _, _, _, _, _, by rw [k2, k4]; rfl, (own_cell h1 (i := 1) rfl).1, ⟨hcf 0 _ rfl, hcf 1 _ rfl, hcf 2 _ rfl, hcf 5 _ rfl⟩, hx⟩
theorem play7 (w : World) (k m : Nat) (hb : Blk w k twoC) (hV : VisAt w (some ⟨m, 0, none⟩) plays7) :
    Calls Try.prog 22 #[.agg #[.slice (some ⟨k, 0, none⟩) 2 2, .int .i64 0, .int .i64 0, .bool false], .slice (some ⟨m, 0, none⟩) 2 2] w fun e w' => ∃ v n0 n1 n2 nx rd ov n3, e = .returned (.tuple #[v, .int .i64 1, .int .i64 30]) ∧ StV n0 n1 n2 nx rd ov n3 v ∧ Ext w w' := by
  refine (leg_Play (two false) (some ⟨k, 0, none⟩) 2 plays7 (some ⟨m, 0, none⟩) 2 w (CntsAt.two hb) (by decide) hV (fits_of (by decide)) (by decide) _ rfl).mono ?_
  rintro e w' ⟨v, rfl, hs, hx⟩
  exact ⟨v, _, _, _, _, _, _, _, by rw [known7], hs.shape, hx⟩
theorem off5 (w : World) (a b m : Nat) (ha : Blk w a #[.int .i64 125, .int .i64 0, .int .i64 101, .int .i64 300, .int .i64 125, .int .i64 0]) (hb : Blk w b #[.int .i64 103, .int .i64 250, .int .i64 104, .int .i64 240]) (hm : Blk w m #[.slice (some ⟨a, 0, none⟩) 3 3, .slice (some ⟨b, 0, none⟩) 2 2]) :
    Calls Try.prog 29 #[.int .i64 3, .slice (some ⟨m, 0, none⟩) 2 2] w fun e w' => e = .returned (.tuple #[.int .i64 2, .int .i64 0]) ∧ Ext w w' := by
  refine leg_Off 3 [[⟨125, 0⟩, ⟨101, 300⟩, ⟨125, 0⟩], [⟨103, 250⟩, ⟨104, 240⟩]] (some ⟨m, 0, none⟩) 2 w (fun i hi => ?_) (by decide) (by simp [I64]) _ known5
  match i, hi with
  | 0, _ =>
    refine ⟨m, 0, some ⟨a, 0, none⟩, 3, rfl, hm.cell 0 rfl, fun i hi => ?_⟩
    match i, hi with
    | 0, _ => exact ⟨a, 0, rfl, ha.cell 0 rfl, ha.cell 1 rfl⟩
    | 1, _ => exact ⟨a, 0, rfl, ha.cell 2 rfl, ha.cell 3 rfl⟩
    | 2, _ => exact ⟨a, 0, rfl, ha.cell 4 rfl, ha.cell 5 rfl⟩
  | 1, _ =>
    refine ⟨m, 0, some ⟨b, 0, none⟩, 2, rfl, hm.cell 1 rfl, fun i hi => ?_⟩
    match i, hi with
    | 0, _ => exact ⟨b, 0, rfl, hb.cell 0 rfl, hb.cell 1 rfl⟩
    | 1, _ => exact ⟨b, 0, rfl, hb.cell 2 rfl, hb.cell 3 rfl⟩
theorem match6 (w : World) (m : Nat) (hm : Blk w m #[.int .i64 0, .int .i64 0, .int .i64 1, .int .i64 1, .int .i64 0, .int .i64 1, .int .i64 0, .int .i64 0]) :
    Calls Try.prog 31 #[.agg #[.int .i64 2, .int .i64 2, .int .i64 2, .int .i64 2, .int .i64 0], .slice (some ⟨m, 0, none⟩) 8 8] w fun e w' => e = .returned (.tuple #[.agg #[.int .i64 2, .int .i64 1, .int .i64 3, .int .i64 1, .int .i64 (-1), .int .i64 0], .int .i64 0, .int .i64 0]) ∧ Ext w w' := by
  refine leg_Match ⟨2, 2, 2, 2, 0⟩ [0, 0, 1, 1, 0, 1, 0, 0] (some ⟨m, 0, none⟩) 8 w (fun i hi => ?_) (by decide) _ known6
  match i, hi with
  | 0, _ => exact ⟨m, 0, rfl, hm.cell 0 rfl⟩
  | 1, _ => exact ⟨m, 0, rfl, hm.cell 1 rfl⟩
  | 2, _ => exact ⟨m, 0, rfl, hm.cell 2 rfl⟩
  | 3, _ => exact ⟨m, 0, rfl, hm.cell 3 rfl⟩
  | 4, _ => exact ⟨m, 0, rfl, hm.cell 4 rfl⟩
  | 5, _ => exact ⟨m, 0, rfl, hm.cell 5 rfl⟩
  | 6, _ => exact ⟨m, 0, rfl, hm.cell 6 rfl⟩
  | 7, _ => exact ⟨m, 0, rfl, hm.cell 7 rfl⟩
/-- While the first visit is judged. -/
structure KnoG (base : Nat) (L : Nat → Bool) (u : Nat → Value) (w : World) : Prop where
  rules : L 0 = true → L 6 = false → ∃ k, u 0 = .agg #[.slice (some ⟨k, 0, none⟩) 2 2, .int .i64 0, .int .i64 0, .bool false] ∧ Blk w k twoC
  beds : L 4 = true → L 6 = false → ∃ k, u 4 = .slice (some ⟨k, 0, none⟩) 2 2 ∧ CellsAt w .i64 (some ⟨k, 0, none⟩) [320, 220]
  out : L 10 = true → ∃ k, u 10 = .pointer (some ⟨k, 0, none⟩) ∧ base ≤ k ∧ Blk w k (bif L 11 then #[.int .i64 101, .int .i64 0, .int .i64 2, .bool true, .bool true, .bool false] else #[.int .i64 0, .int .i64 0, .int .i64 0, .bool false, .bool false, .bool false])
structure KnoR (k : Nat) (v : Value) : Prop where
  rules : k = 0 → ∃ k, v = .agg #[.slice (some ⟨k, 0, none⟩) 2 2, .int .i64 0, .int .i64 0, .bool false]
  count : k = 3 → v = .agg #[.int .i64 101, .int .i64 0, .int .i64 1]
  beds : k = 4 → ∃ k, v = .slice (some ⟨k, 0, none⟩) 2 2
  visit : k = 6 → v = .tuple #[.agg #[.int .i64 101, .int .i64 0, .int .i64 2, .bool true, .bool true, .bool false], .int .i64 0]
  out : k = 10 → ∃ k, v = .pointer (some ⟨k, 0, none⟩)
theorem KnoG.mono {base : Nat} {L : Nat → Bool} {u : Nat → Value} {w w' : World} (h : KnoG base L u w) (hx : Ext w w') : KnoG base L u w' :=
  ⟨fun hl h6 => let ⟨k, a, b⟩ := h.rules hl h6; ⟨k, a, b.ext hx⟩, fun hl h6 => let ⟨k, a, b⟩ := h.beds hl h6; ⟨k, a, b.ext hx⟩, fun hl => let ⟨k, a, b, c⟩ := h.out hl; ⟨k, a, b, c.ext hx⟩⟩
set_option maxRecDepth 100000 in
set_option maxHeartbeats 2000000 in
theorem law_known (w : World) : Calls Try.prog 13 #[] w fun e w' => e = .returned (.bool true) ∧ Ext w w' := by
  go_enter Try.func13, Try.ntmps13
  go_wp2
  refine wp_region_lat (by kernel_rfl) (fun _ _ => False) (fun k => k == 0 || k == 3 || k == 4 || k == 6 || k == 10 || k == 11) KnoR (KnoG w.heap.size)
    (by kernel_rfl) (fun k hk => by simp only [Bool.or_eq_true, beq_iff_eq] at hk; show k < 13; omega)
    (fun L L' u w hh hg => ⟨by rw [hh 0 rfl, hh 6 rfl]; exact hg.rules, by rw [hh 4 rfl, hh 6 rfl]; exact hg.beds, by rw [hh 10 rfl, hh 11 rfl]; exact hg.out⟩)
    (fun L u w w' hg hx => hg.mono hx)
    (fun j => if j = 0 then .agg #[.slice (some ⟨0, 0, none⟩) 2 2, .int .i64 0, .int .i64 0, .bool false] else if j = 3 then .agg #[.int .i64 101, .int .i64 0, .int .i64 1] else if j = 4 then .slice (some ⟨0, 0, none⟩) 2 2
      else if j = 6 then .tuple #[.agg #[.int .i64 101, .int .i64 0, .int .i64 2, .bool true, .bool true, .bool false], .int .i64 0] else .pointer (some ⟨0, 0, none⟩))
    (fun j hj => ⟨fun h => by subst h; exact ⟨0, rfl⟩, fun h => by subst h; rfl, fun h => by subst h; exact ⟨0, rfl⟩, fun h => by subst h; rfl, fun h => by subst h; exact ⟨0, rfl⟩⟩)
    ⟨fun h => (by cases h), fun h => (by cases h), fun h => (by cases h)⟩ ?_
  intro T hT hne u hu
  obtain ⟨k0, u0⟩ := (hu 0 rfl).rules rfl
  have u3 := (hu 3 rfl).count rfl
  obtain ⟨k4, u4⟩ := (hu 4 rfl).beds rfl
  have u6 := (hu 6 rfl).visit rfl
  obtain ⟨k10, u10⟩ := (hu 10 rfl).out rfl
  refine lx_loud (by rfl) (by kernel_rfl) ?_ (fun K hK => ?_)
  · intro L w3 hL hd hcl hC hg
    obtain ⟨z, rfl⟩ := hC
    go_wp2_with fail
    refine (law_two false _).mono ?_
    rintro e w4 ⟨k, rfl, hb, -, hx⟩
    go_wp2
    exact ⟨⟨fun _ => ⟨_, rfl⟩, fun h => absurd h (by decide), fun h => absurd h (by decide), fun h => absurd h (by decide), fun h => absurd h (by decide)⟩, ⟨z.ext hx, rfl⟩, ⟨fun _ _ => ⟨k, rfl, hb⟩, (hg.mono hx).beds, (hg.mono hx).out⟩⟩
  rw [u0]
  go_simp
  with_reducible refine hK _ ?_
  clear hK K
  refine lx_next 2 (by rfl) (by decide) ?_
  dsimp only [List.take, List.drop]
  repeat (go_big_quiet_step (fail))
  refine wpQuiet_nil ?_
  refine lx_loud (by rfl) (by kernel_rfl) ?_ (fun K hK => ?_)
  · intro L w3 hL hd hcl hC hg
    obtain ⟨z, rfl⟩ := hC
    obtain ⟨k, hk, hb⟩ := hg.rules (hcl.on 10 (hd 2 (by kernel_rfl)) (by kernel_rfl)) (hcl.off hL 10 6 (by kernel_rfl))
    obtain rfl : k = k0 := by rw [u0] at hk; cases hk; rfl
    have t0 := hb.cell 0 (v := .int .i64 101) rfl
    have t1 := hb.cell 1 (v := .int .i64 0) rfl
    have t2 := hb.cell 2 (v := .int .i64 1) rfl
    have hlt := hb.lt
    go_wp2
    exact ⟨⟨fun h => absurd h (by decide), fun _ => rfl, fun h => absurd h (by decide), fun h => absurd h (by decide), fun h => absurd h (by decide)⟩, ⟨z, rfl⟩, ⟨hg.rules, hg.beds, hg.out⟩⟩
  rw [u3]
  go_simp
  with_reducible refine hK _ ?_
  clear hK K
  refine lx_loud (by rfl) (by kernel_rfl) ?_ (fun K hK => ?_)
  · intro L w3 hL hd hcl hC hg
    obtain ⟨z, rfl⟩ := hC
    have hx := (Ext.refl z.world).alloc (.cells #[.int .i64 320, .int .i64 220] 34)
    go_wp2
    exact ⟨⟨fun h => absurd h (by decide), fun h => absurd h (by decide), fun _ => ⟨_, rfl⟩, fun h => absurd h (by decide), fun h => absurd h (by decide)⟩, ⟨z.ext hx, rfl⟩, ⟨(hg.mono hx).rules, fun _ _ => ⟨z.world.heap.size, rfl, CellsAt.two _ _ _ _ rfl⟩, (hg.mono hx).out⟩⟩
  rw [u4]
  go_simp
  with_reducible refine hK _ ?_
  clear hK K
  refine lx_next 1 (by rfl) (by decide) ?_
  dsimp only [List.take, List.drop]
  repeat (go_big_quiet_step (refine Calls.lat hT ((law_beds _ _ _ _).mono fun e w' ⟨h1, h2⟩ => ⟨h1, h2 ▸ Ext.refl _⟩)))
  refine wpQuiet_nil ?_
  refine lx_loud (by rfl) (by kernel_rfl) ?_ (fun K hK => ?_)
  · intro L w3 hL hd hcl hC hg
    obtain ⟨z, rfl⟩ := hC
    obtain ⟨k, hk, hb⟩ := hg.beds (hcl.on 10 (hd 5 (by kernel_rfl)) (by kernel_rfl)) hL
    obtain rfl : k = k4 := by rw [u4] at hk; cases hk; rfl
    have hP := leg_Visit 101 0 1 true 101 [320, 220] _ 2 _ hb (by simp [I64]) (by decide) _ known1
    go_wp2_with fail
    refine hP.mono ?_
    rintro e w4 ⟨rfl, hx⟩
    go_wp2
    exact ⟨⟨fun h => absurd h (by decide), fun h => absurd h (by decide), fun h => absurd h (by decide), fun _ => rfl, fun h => absurd h (by decide)⟩, ⟨z.ext hx, rfl⟩, ⟨fun _ h => (by simp [upd] at h), fun _ h => (by simp [upd] at h), (hg.mono hx).out⟩⟩
  rw [u6]
  go_simp
  with_reducible refine hK _ ?_
  clear hK K
  refine lx_next 3 (by rfl) (by decide) ?_
  dsimp only [List.take, List.drop]
  repeat (go_big_quiet_step (fail))
  refine wpQuiet_nil ?_
  refine lx_loud (by rfl) (by kernel_rfl) ?_ (fun K hK => ?_)
  · intro L w3 hL hd hcl hC hg
    obtain ⟨z, rfl⟩ := hC
    have h11 := hcl.off hL 20 11 (by kernel_rfl)
    have hx := (Ext.refl z.world).alloc (.cells #[.int .i64 0, .int .i64 0, .int .i64 0, .bool false, .bool false, .bool false] 30)
    have hsz := z.size
    go_wp2
    refine ⟨⟨fun h => absurd h (by decide), fun h => absurd h (by decide), fun h => absurd h (by decide), fun h => absurd h (by decide), fun _ => ⟨_, rfl⟩⟩, ⟨z.ext hx, rfl⟩, ⟨(hg.mono hx).rules, (hg.mono hx).beds, fun _ => ⟨z.world.heap.size, rfl, hsz, ?_⟩⟩⟩
    simp only [upd]
    rw [h11]
    exact Blk.new _ _ _
  rw [u10]
  go_simp
  with_reducible refine hK _ ?_
  clear hK K
  refine lx_loud (by rfl) (by kernel_rfl) ?_ (fun K hK => ?_)
  · intro L w3 hL hd hcl hC hg
    obtain ⟨z, rfl⟩ := hC
    obtain ⟨k, hk, hkb, hb⟩ := hg.out (hd 10 (by kernel_rfl))
    obtain rfl : k = k10 := by rw [u10] at hk; cases hk; rfl
    rw [hL] at hb
    have hb' : Blk z.world k #[.int .i64 0, .int .i64 0, .int .i64 0, .bool false, .bool false, .bool false] := hb
    have HB := Lib.hid hb'
    have hX := Lib.hid (six_ext (a := w) (Chg.to_ext (Ext.refl w) z.chg (by rintro i ⟨o, h⟩; exact h.elim)) hkb (.int .i64 101) (.int .i64 0) (.int .i64 2) (.bool true) (.bool true) (.bool false))
    have HG := Lib.hid hg
    obtain ⟨⟨y0, y1, y2, y3, y4, y5⟩, ys, g0, g1, g2, g3, g4, g5⟩ := hb'.six
    clear hb hb' hg
    have h6 := hcl.on (i := 6) 10 (hd 8 (by kernel_rfl)) (by kernel_rfl)
    go_wp2
    exact ⟨⟨fun h => absurd h (by decide), fun h => absurd h (by decide), fun h => absurd h (by decide), fun h => absurd h (by decide), fun h => absurd h (by decide)⟩, ⟨Lat.of_ext _ hX.out, rfl⟩,
      ⟨fun _ h => (by simp only [upd] at h; rw [h6] at h; cases h), fun _ h => (by simp only [upd] at h; rw [h6] at h; cases h), fun _ => ⟨k, u10, hkb, six_set HB.out _ _ _ _ _ _⟩⟩⟩
  go_simp
  with_reducible refine hK _ ?_
  clear hK K
  refine lx_next 1 (by rfl) (by decide) ?_
  dsimp only [List.take, List.drop]
  repeat (go_big_quiet_step (fail))
  refine wpQuiet_nil ?_
  refine lx_nil ?_
  intro z hG
  obtain ⟨k, hk, hkb, hb⟩ := hG.out rfl
  obtain rfl : k = k10 := by rw [u10] at hk; cases hk; rfl
  have hE1 : Ext w z.world := Chg.to_ext (Ext.refl w) z.chg (by rintro i ⟨o, h⟩; exact h.elim)
  have hb' : Blk z.world k #[.int .i64 101, .int .i64 0, .int .i64 2, .bool true, .bool true, .bool false] := hb
  have HX := Lib.hid hb'
  generalize z.world = w1 at *
  clear hG hb hb' hk hkb u0 u3 u4 u6 u10 hu hT hne z
  go_wp2_with fail
  refine (law_beds _ _ _ _).mono ?_
  rintro e w2 ⟨rfl, rfl⟩
  go_wp2_with fail
  have hP := leg_Visit 101 1 0 false 101 [320, 210, 120] (some ⟨w1.heap.size, 0, none⟩) 3 _ (CellsAt.three w1 320 210 120 34 rfl) (by simp [I64]) (by decide) _ known2
  refine hP.mono ?_
  clear hP
  rintro e w2 ⟨rfl, hx2⟩
  have hE2 := (hE1.alloc _).trans hx2
  simp only [Thr.agg]
  have hX2 := (HX.out.alloc (.cells #[.int .i64 320, .int .i64 210, .int .i64 120] 34)).ext hx2
  have HX2 := Lib.hid (hX2.alloc (.cells #[.int .i64 61, .int .i64 40, .int .i64 3, .bool true, .bool false, .bool false] 30))
  have HY2 : Hid (Blk (w2.alloc (.cells #[.int .i64 61, .int .i64 40, .int .i64 3, .bool true, .bool false, .bool false] 30)) w2.heap.size #[.int .i64 61, .int .i64 40, .int .i64 3, .bool true, .bool false, .bool false]) := Lib.hid (Blk.new _ _ _)
  have hE3 := hE2.alloc (.cells #[.int .i64 61, .int .i64 40, .int .i64 3, .bool true, .bool false, .bool false] 30)
  have hwk : w2.heap.size < (w2.alloc (.cells #[.int .i64 61, .int .i64 40, .int .i64 3, .bool true, .bool false, .bool false] 30)).heap.size := by simp
  clear hX2 hx2 HX hE1 hE2
  go_wp2_with fail
  refine (law_two true _).mono ?_
  rintro e w3 ⟨k3, rfl, hb3, -, hx3⟩
  have HX3 := Lib.hid (HX2.out.ext hx3)
  have HY3 := Lib.hid (HY2.out.ext hx3)
  have hE4 := hE3.trans hx3
  clear hE3 hx3 HX2 HY2 hwk
  generalize w2.heap.size = ky at *
  have HB3 := Lib.hid hb3
  clear hb3
  go_wp2_with fail
  refine (law_beds _ _ _ _).mono ?_
  rintro e w4 ⟨rfl, rfl⟩
  go_wp2_with fail
  refine (law_beds _ _ _ _).mono ?_
  rintro e w4 ⟨rfl, rfl⟩
  go_wp2_with fail
  refine (play3 _ k3 _ (by exact ((HB3.out.alloc _).alloc _).alloc _) (by exact VisAt.mk2 _ _ ⟨0, [320, 101, 220]⟩ ⟨1, [320, 101, 220]⟩ _ _ 3 3 ((CellsAt.three _ _ _ _ _ rfl).ext ((Ext.refl _).alloc _)) (CellsAt.three _ _ _ _ _ (by simp)) (by simp))).mono ?_
  rintro e w4 ⟨v, n0, n1, n2, nx, at_, rfl, ⟨a0, c0, a1, c1, a2, c2, a3, c3, rfl⟩, hx4⟩
  have hs : Ext w3 w4 := Ext.trans ((((Ext.refl w3).alloc _).alloc _).alloc _) hx4
  have HX4 := Lib.hid (HX3.out.ext hs)
  have HY4 := Lib.hid (HY3.out.ext hs)
  have hE5 := hE4.trans hs
  clear hx4 HX3 HY3 HB3 hE4 hs
  go_wp2_with fail
  generalize hW : World.alloc w4 _ = W4
  have hs : Ext w4 W4 := by rw [← hW]; exact (Ext.refl w4).alloc _
  have HX5 := Lib.hid (HX4.out.ext hs)
  have HY5 := Lib.hid (HY4.out.ext hs)
  have HS5 : Hid (Blk W4 w4.heap.size #[.slice a0 n0 c0, .slice a1 n1 c1, .slice a2 n2 c2, .int .i64 nx, .int .i64 1, .bool true, .slice a3 2 c3]) := Lib.hid (by rw [← hW]; exact Blk.new _ _ _)
  have hE6 := hE5.trans hs
  clear HX4 HY4 hs hE5
  have hks : w4.heap.size < W4.heap.size := by rw [← hW]; simp
  generalize w4.heap.size = ks at *
  clear hW
  refine (law_two false _).mono ?_
  rintro e w5 ⟨k5, rfl, hb5, -, hx5⟩
  have HX6 := Lib.hid (HX5.out.ext hx5)
  have HY6 := Lib.hid (HY5.out.ext hx5)
  have HS6 := Lib.hid (HS5.out.ext hx5)
  have hE7 := hE6.trans hx5
  have HB5 := Lib.hid hb5
  clear HX5 HY5 HS5 hE6 hx5 hb5 hks
  go_wp2_with fail
  refine (law_beds _ _ _ _).mono ?_
  rintro e wq ⟨rfl, rfl⟩
  go_wp2_with fail
  refine (law_beds _ _ _ _).mono ?_
  rintro e wq ⟨rfl, rfl⟩
  go_wp2_with fail
  refine (law_beds _ _ _ _).mono ?_
  rintro e wq ⟨rfl, rfl⟩
  go_wp2_with fail
  refine (law_beds _ _ _ _).mono ?_
  rintro e wq ⟨rfl, rfl⟩
  go_wp2_with fail
  refine (judge4 _ k5 _ (by exact ((((HB5.out.alloc _).alloc _).alloc _).alloc _).alloc _) (by exact VisAt.mk4 _ _ ⟨0, [101, 101, 101]⟩ ⟨0, [101, 101, 101]⟩ ⟨1, [120, 120]⟩ ⟨1, [120, 120, 120]⟩ _ _ _ _ 3 3 2 3 ((CellsAt.three _ _ _ _ _ rfl).ext ((((Ext.refl _).alloc _).alloc _).alloc _)) ((CellsAt.three _ _ _ _ _ (by simp)).ext (((Ext.refl _).alloc _).alloc _)) ((CellsAt.two _ _ _ _ (by simp)).ext ((Ext.refl _).alloc _)) (CellsAt.three _ _ _ _ _ (by simp)) (by simp))).mono ?_
  rintro e w6 ⟨jl, jc, jd, ji, jw, fb, fc, m1, m2, m3, rd, ov, rfl, hj1, ⟨hf0, hf1, hf2, hf5⟩, hx6⟩
  have hs : Ext w5 w6 := Ext.trans ((((((Ext.refl w5).alloc _).alloc _).alloc _).alloc _).alloc _) hx6
  have HX7 := Lib.hid (HX6.out.ext hs)
  have HY7 := Lib.hid (HY6.out.ext hs)
  have HS7 := Lib.hid (HS6.out.ext hs)
  have hE8 := hE7.trans hs
  have HJ := Lib.hid hj1
  have HF := Lib.hid (And.intro hf0 (And.intro hf1 (And.intro hf2 hf5)))
  clear hx6 HX6 HY6 HS6 HB5 hE7 hs hj1 hf0 hf1 hf2 hf5
  go_wp2_with fail
  refine (off5 _ _ _ _ (by exact ((Blk.at (w6.heap.size + 1) (by simp)).alloc _).alloc _) (by exact (Blk.at (w6.heap.size + 1 + 1) (by simp)).alloc _) (by exact Blk.at _ (by simp))).mono ?_
  rintro e w7 ⟨rfl, hx7⟩
  have hs : Ext w6 w7 := Ext.trans (((((Ext.refl w6).alloc _).alloc _).alloc _).alloc _) hx7
  have hjb : Blk w7 w6.heap.size #[.slice (some ⟨jl, 0, none⟩) 2 jc, .slice jd.1 m1 jd.2, .slice ji.1 m2 ji.2, .int .i64 0, .int .i64 rd, .bool ov, .slice jw.1 m3 jw.2] := ((((Blk.new w6 _ _).alloc _).alloc _).alloc _).ext hx7
  have HX8 := Lib.hid (HX7.out.ext hs)
  have HY8 := Lib.hid (HY7.out.ext hs)
  have HS8 := Lib.hid (HS7.out.ext hs)
  have hE9 := hE8.trans hs
  have HJ8 := Lib.hid (hs.cell HJ.out)
  have HF8 := Lib.hid (And.intro (hs.cell HF.out.1) (And.intro (hs.cell HF.out.2.1) (And.intro (hs.cell HF.out.2.2.1) (hs.cell HF.out.2.2.2))))
  have HJB8 := Lib.hid hjb
  clear hx7 HX7 HY7 HS7 hE8 HJ HF hjb hs
  generalize w6.heap.size = kj at *
  go_wp2_with fail
  refine (match6 _ _ (by exact Blk.at _ (by simp))).mono ?_
  rintro e w8 ⟨rfl, hx8⟩
  have hs : Ext w7 w8 := Ext.trans ((Ext.refl w7).alloc _) hx8
  have HX9 := Lib.hid (HX8.out.ext hs)
  have HY9 := Lib.hid (HY8.out.ext hs)
  have HS9 := Lib.hid (HS8.out.ext hs)
  have hE10 := hE9.trans hs
  have HJ9 := Lib.hid (hs.cell HJ8.out)
  have HF9 := Lib.hid (And.intro (hs.cell HF8.out.1) (And.intro (hs.cell HF8.out.2.1) (And.intro (hs.cell HF8.out.2.2.1) (hs.cell HF8.out.2.2.2))))
  have HJB9 := Lib.hid (HJB8.out.ext hs)
  clear hx8 HX8 HY8 HS8 hE9 HJ8 HF8 HJB8 hs
  go_wp2_with fail
  refine (law_two false _).mono ?_
  rintro e w9 ⟨k9, rfl, hb9, -, hx9⟩
  have hs : Ext w8 w9 := Ext.trans ((Ext.refl w8).alloc _) hx9
  have hmb : Blk w9 w8.heap.size #[.int .i64 2, .int .i64 1, .int .i64 3, .int .i64 1, .int .i64 (-1), .int .i64 0] := (Blk.new w8 _ _).ext hx9
  have HX10 := Lib.hid (HX9.out.ext hs)
  have HY10 := Lib.hid (HY9.out.ext hs)
  have HS10 := Lib.hid (HS9.out.ext hs)
  have hE11 := hE10.trans hs
  have HJ10 := Lib.hid (hs.cell HJ9.out)
  have HF10 := Lib.hid (And.intro (hs.cell HF9.out.1) (And.intro (hs.cell HF9.out.2.1) (And.intro (hs.cell HF9.out.2.2.1) (hs.cell HF9.out.2.2.2))))
  have HJB10 := Lib.hid (HJB9.out.ext hs)
  have HM10 := Lib.hid hmb
  have HB9 := Lib.hid hb9
  clear hx9 HX9 HY9 HS9 hE10 HJ9 HF9 HJB9 hs hmb hb9
  generalize w8.heap.size = km at *
  go_wp2_with fail
  refine (law_beds _ _ _ _).mono ?_
  rintro e wq ⟨rfl, rfl⟩
  go_wp2_with fail
  refine (law_beds _ _ _ _).mono ?_
  rintro e wq ⟨rfl, rfl⟩
  go_wp2_with fail
  refine (play7 _ k9 _ (by exact ((HB9.out.alloc _).alloc _).alloc _) (by exact VisAt.mk2 _ _ ⟨0, [320, 101, 0]⟩ ⟨0, [0, 0, 0]⟩ _ _ 3 3 ((CellsAt.three _ _ _ _ _ rfl).ext ((Ext.refl _).alloc _)) (CellsAt.three _ _ _ _ _ (by simp)) (by simp))).mono ?_
  rintro e w11 ⟨v, l0, l1, l2, lx, lr, lo, l3, rfl, ⟨p0, q0, p1, q1, p2, q2, p3, q3, rfl⟩, hx11⟩
  have hs : Ext w9 w11 := Ext.trans ((((Ext.refl w9).alloc _).alloc _).alloc _) hx11
  have hs2 : Ext w9 (w11.alloc (.cells #[.slice p0 l0 q0, .slice p1 l1 q1, .slice p2 l2 q2, .int .i64 lx, .int .i64 lr, .bool lo, .slice p3 l3 q3] 51)) := hs.alloc _
  have x0 := (HX10.out.ext hs2).cell 0 (v := .int .i64 101) rfl
  have x2 := (HX10.out.ext hs2).cell 2 (v := .int .i64 2) rfl
  have x4 := (HX10.out.ext hs2).cell 4 (v := .bool true) rfl
  have y0 := (HY10.out.ext hs2).cell 0 (v := .int .i64 61) rfl
  have y1 := (HY10.out.ext hs2).cell 1 (v := .int .i64 40) rfl
  have y3 := (HY10.out.ext hs2).cell 3 (v := .bool true) rfl
  have s4 := (HS10.out.ext hs2).cell 4 (v := .int .i64 1) rfl
  have s5 := (HS10.out.ext hs2).cell 5 (v := .bool true) rfl
  have s6 := (HS10.out.ext hs2).cell 6 (v := .slice a3 2 c3) rfl
  have j0 := (HJB10.out.ext hs2).cell 0 (v := .slice (some ⟨jl, 0, none⟩) 2 jc) rfl
  have j3 := (HJB10.out.ext hs2).cell 3 (v := .int .i64 0) rfl
  have j41 := hs2.cell HJ10.out
  have f0 := hs2.cell HF10.out.1
  have f1 := hs2.cell HF10.out.2.1
  have f2 := hs2.cell HF10.out.2.2.1
  have f5 := hs2.cell HF10.out.2.2.2
  have g2 := (HM10.out.ext hs2).cell 2 (v := .int .i64 3) rfl
  have g3 := (HM10.out.ext hs2).cell 3 (v := .int .i64 1) rfl
  have g5 := (HM10.out.ext hs2).cell 5 (v := .int .i64 0) rfl
  have hE12 := hE11.trans hs2
  clear hx11 HX10 HY10 HS10 hE11 HJ10 HF10 HJB10 HM10 HB9 hs hs2
  go_wp2
  go_ret
  exact ⟨rfl, hE12⟩
end Go.Proofs.Ytocnglplhnhllaa
