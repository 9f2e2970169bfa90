/-
  Blocks of a few cells that are stored whole; what calls of the board's package hand back; regions that draw.
-/
import Derived.Test.YtlkbbcfbnbnagaaRex
import Derived.Test.YtlkbbcfbnbnagaaHld
import Derived.Test.YtlkbbcfbnbnagaaMir
namespace Go.Proofs.Ytlkbbcfbnbnagaa
open Go.RowKit Go.BigFrame
theorem one_set {w : World} {b : Nat} {v0 : Value} (h : Blk w b #[v0]) (x0 : Value) : Blk (w.setCell ⟨b, 0, none⟩ x0) b #[x0] := by
  have h0 : Blk _ b #[x0] := h.set 0 x0
  exact h0
theorem one_chg (S : Nat → Prop) (w : World) {b : Nat} (hb : S b) (x0 : Value) : Chg S w (w.setCell ⟨b, 0, none⟩ x0) := ((Chg.refl S w).setCell (.inr hb) x0)
theorem two_set {w : World} {b : Nat} {v0 v1 : Value} (h : Blk w b #[v0, v1]) (x0 x1 : Value) : Blk ((w.setCell ⟨b, 0, none⟩ x0).setCell ⟨b, 1, none⟩ x1) b #[x0, x1] := by
  have h0 : Blk _ b #[x0, v1] := h.set 0 x0
  have h1 : Blk _ b #[x0, x1] := h0.set 1 x1
  exact h1
theorem two_chg (S : Nat → Prop) (w : World) {b : Nat} (hb : S b) (x0 x1 : Value) : Chg S w ((w.setCell ⟨b, 0, none⟩ x0).setCell ⟨b, 1, none⟩ x1) := (((Chg.refl S w).setCell (.inr hb) x0).setCell (.inr hb) x1)
theorem four_set {w : World} {b : Nat} {v0 v1 v2 v3 : Value} (h : Blk w b #[v0, v1, v2, v3]) (x0 x1 x2 x3 : Value) : Blk ((((w.setCell ⟨b, 0, none⟩ x0).setCell ⟨b, 1, none⟩ x1).setCell ⟨b, 2, none⟩ x2).setCell ⟨b, 3, none⟩ x3) b #[x0, x1, x2, x3] := by
  have h0 : Blk _ b #[x0, v1, v2, v3] := h.set 0 x0
  have h1 : Blk _ b #[x0, x1, v2, v3] := h0.set 1 x1
  have h2 : Blk _ b #[x0, x1, x2, v3] := h1.set 2 x2
  have h3 : Blk _ b #[x0, x1, x2, x3] := h2.set 3 x3
  exact h3
theorem four_chg (S : Nat → Prop) (w : World) {b : Nat} (hb : S b) (x0 x1 x2 x3 : Value) : Chg S w ((((w.setCell ⟨b, 0, none⟩ x0).setCell ⟨b, 1, none⟩ x1).setCell ⟨b, 2, none⟩ x2).setCell ⟨b, 3, none⟩ x3) := (((((Chg.refl S w).setCell (.inr hb) x0).setCell (.inr hb) x1).setCell (.inr hb) x2).setCell (.inr hb) x3)
theorem six_set {w : World} {b : Nat} {v0 v1 v2 v3 v4 v5 : Value} (h : Blk w b #[v0, v1, v2, v3, v4, v5]) (x0 x1 x2 x3 x4 x5 : Value) : Blk ((((((w.setCell ⟨b, 0, none⟩ x0).setCell ⟨b, 1, none⟩ x1).setCell ⟨b, 2, none⟩ x2).setCell ⟨b, 3, none⟩ x3).setCell ⟨b, 4, none⟩ x4).setCell ⟨b, 5, none⟩ x5) b #[x0, x1, x2, x3, x4, x5] := by
  have h0 : Blk _ b #[x0, v1, v2, v3, v4, v5] := h.set 0 x0
  have h1 : Blk _ b #[x0, x1, v2, v3, v4, v5] := h0.set 1 x1
  have h2 : Blk _ b #[x0, x1, x2, v3, v4, v5] := h1.set 2 x2
  have h3 : Blk _ b #[x0, x1, x2, x3, v4, v5] := h2.set 3 x3
  have h4 : Blk _ b #[x0, x1, x2, x3, x4, v5] := h3.set 4 x4
  have h5 : Blk _ b #[x0, x1, x2, x3, x4, x5] := h4.set 5 x5
  exact h5
theorem six_chg (S : Nat → Prop) (w : World) {b : Nat} (hb : S b) (x0 x1 x2 x3 x4 x5 : Value) : Chg S w ((((((w.setCell ⟨b, 0, none⟩ x0).setCell ⟨b, 1, none⟩ x1).setCell ⟨b, 2, none⟩ x2).setCell ⟨b, 3, none⟩ x3).setCell ⟨b, 4, none⟩ x4).setCell ⟨b, 5, none⟩ x5) := (((((((Chg.refl S w).setCell (.inr hb) x0).setCell (.inr hb) x1).setCell (.inr hb) x2).setCell (.inr hb) x3).setCell (.inr hb) x4).setCell (.inr hb) x5)
/-- All beds of a box, and no error. -/
theorem calls_beds (v : BrdV) (b : Brd) (x : Bx) (w : World) (h : BrdAt w v b) (hs : SmallB b) (he : errB b = 0) (hx : boxB x = true) (hn : boxN x ≤ 2500) :
    Calls Try.prog 14 #[.agg (v.cells b), x.agg] w fun e w' => ∃ a c, e = .returned (.tuple #[.slice a (setL ((ptsL x).map (bedB b))).length c, .int .i64 0]) ∧ CellsAt w' .i64 a (setL ((ptsL x).map (bedB b))) ∧ Ext w w' := by
  refine (brd_Beds v b x w h hs).mono ?_
  rw [beds_ok he hx hn]
  dsimp only
  generalize setL ((ptsL x).map (bedB b)) = L
  rintro e w' ⟨u, rfl, hO, hX⟩
  obtain ⟨a, c, rfl, hc⟩ := hO.cells
  exact ⟨a, c, rfl, hc, hX⟩
theorem calls_all (v : BrdV) (b : Brd) (w : World) (h : BrdAt w v b) (hs : SmallB b) (he : errB b = 0) :
    Calls Try.prog 24 #[.agg (v.cells b)] w fun e w' => ∃ a c, e = .returned (.tuple #[.slice a (setL (allM b)).length c, .int .i64 0]) ∧ CellsAt w' .i64 a (setL (allM b)) ∧ Ext w w' := by
  refine (brd_All v b w h hs).mono ?_
  have e1 : allR b = (setL (allM b), 0) := by unfold allR; rw [if_neg (by simp [he])]
  rw [e1]
  dsimp only
  generalize setL (allM b) = L
  rintro e w' ⟨u, rfl, hO, hX⟩
  obtain ⟨a, c, rfl, hc⟩ := hO.cells
  exact ⟨a, c, rfl, hc, hX⟩
def LstS (l : List Int) (v : Value) : Prop := ∃ a c, v = .tuple #[.slice a l.length c, .int .i64 0]
def lstW (l : List Int) : Value := .tuple #[.slice none l.length 0, .int .i64 0]
def LstT (l : List Int) (v : Value) (w : World) : Prop := ∃ a c, v = .tuple #[.slice a l.length c, .int .i64 0] ∧ CellsAt w .i64 a l
/-- A list of integers, and no error. -/
def Rik.lst (l : List Int) : Rik := ⟨true, LstS l, LstT l, fun _ _ _ ⟨a, c, e, h⟩ hx => ⟨a, c, e, h.ext hx⟩, lstW l, ⟨_, _, rfl⟩⟩
theorem LstT.at {l : List Int} {a : Option Addr} {c : Nat} {w : World} (h : LstT l (.tuple #[.slice a l.length c, .int .i64 0]) w) : CellsAt w .i64 a l := by
  obtain ⟨a', c', e, hc⟩ := h
  simp only [Value.tuple.injEq, Array.mk.injEq, List.cons.injEq, Value.slice.injEq, true_and, and_true] at e
  obtain ⟨rfl, -⟩ := e
  exact hc
def pntM (v0 v1 : Int) : Pt := ⟨v0 % 2501 - 1250, v1 % 2501 - 1250⟩
theorem law_point (v0 v1 : Int) (h0 : 0 ≤ v0 ∧ v0 ≤ 65535) (h1 : 0 ≤ v1 ∧ v1 ≤ 65535) (w : World) : Calls Try.prog 19 #[.agg #[.int .u16 v0, .int .u16 v1]] w fun e w' => e = .returned (.agg #[.int .i64 (v0 % 2501 - 1250), .int .i64 (v1 % 2501 - 1250)]) ∧ Ext w w' := by
  obtain ⟨a0, a1⟩ := h0
  obtain ⟨b0, b1⟩ := h1
  go_enter Try.func19, Try.ntmps19
  go_wp2
  refine bodyPost_ret (v := .agg #[.int .i64 (v0 % 2501 - 1250), .int .i64 (v1 % 2501 - 1250)]) (by simp [results, Try.results19, go_sem]) rfl ⟨rfl, ?_⟩
  first | exact Ext.refl w | exact (Ext.refl w).alloc _ | exact ((Ext.refl w).alloc _).alloc _
theorem bed_ok {b : Brd} {p : Pt} (he : errB b = 0) (hp : ptB p = true) : bedR b p = (bedB b p, onWire b p, 0) := by
  unfold bedR
  rw [if_neg (by simp [he]), if_pos hp]
theorem calls_bed (v : BrdV) (b : Brd) (p : Pt) (w : World) (h : BrdAt w v b) (hs : SmallB b) (he : errB b = 0) (hp : ptB p = true) :
    Calls Try.prog 20 #[.agg (v.cells b), p.agg] w fun e w' => e = .returned (.tuple #[.int .i64 (bedB b p), .bool (onWire b p), .int .i64 0]) ∧ Ext w w' := by
  refine (brd_Bed v b p w h hs).mono ?_
  rw [bed_ok he hp]
  exact fun e w' h => h
theorem ptB_of {p : Pt} (h0 : -5000 ≤ p.x ∧ p.x ≤ 5000) (h1 : -5000 ≤ p.y ∧ p.y ≤ 5000) : ptB p = true := ins_two.2 ⟨h0, h1⟩
theorem box_ok2 {x0 x1 y0 y1 : Int} (h0 : -1250 ≤ x0) (h1 : x0 ≤ x1) (h2 : x1 ≤ 1300) (h3 : -1250 ≤ y0) (h4 : y0 ≤ y1) (h5 : y1 ≤ 1300) (h6 : x1 - x0 ≤ 29) (h7 : y1 - y0 ≤ 29) : boxB ⟨x0, x1, y0, y1⟩ = true ∧ boxN ⟨x0, x1, y0, y1⟩ ≤ 2500 := by
  refine ⟨?_, ?_⟩
  · unfold boxB
    simp only [Bool.and_eq_true, decide_eq_true_eq]
    exact ⟨ins_two.2 (by omega), ins_two.2 (by omega), by omega, by omega⟩
  · show (x1 - x0 + 1) * (y1 - y0 + 1) ≤ 2500
    have h := Int.mul_le_mul (a := x1 - x0 + 1) (b := y1 - y0 + 1) (c := 30) (d := 30) (by omega) (by omega) (by omega) (by omega)
    omega
def codeSeq (n : Nat) : Code → Option Code
  | .block _ c => codeSeq n c
  | .seq (.seq (.region m l d) x) b => if m = n then some (.seq (.seq (.region m l d) x) b) else codeSeq n b
  | .seq _ b => codeSeq n b
  | _ => none
end Go.Proofs.Ytlkbbcfbnbnagaa
