/-
  What calls on wear and weeks hand back; regions that draw and only make memory.
-/
import Derived.Test.YtlkbbcfbnbnagaaRex
import Derived.Test.YtlkbbcfbnbnagaaBoY
import Derived.Test.YtlkbbcfbnbnagaaWea
namespace Go.Proofs.Ytlkbbcfbnbnagaa
open Go.RowKit Go.BigFrame
theorem RdI.ext {w w' : World} {v : Value} {xs : List Int} (h : RdI S0 w v xs) (hx : Ext w w') : RdI S0 w' v xs := h.keep (Kc.of_ext hx)
theorem WksAt.ext {w w' : World} {v : Value} {wks : List (List Int)} (h : WksAt S0 w v wks) (hx : Ext w w') : WksAt S0 w' v wks := h.keep (Kc.of_ext hx)
theorem WksAt.head1 {S : Nat → Prop} {W : World} {a : Option Addr} {c : Nat} {p q : List Int} (h : WksAt S W (.slice a 2 c) [p, q]) : WksAt S W (.slice a 1 c) [p] := by
  obtain ⟨a', c', e, h2, h3, h4⟩ := h
  cases e
  exact ⟨_, _, rfl, by simp at h2 ⊢; omega, h3, fun i hi => by
    have hi : i < 1 := by simpa using hi
    obtain rfl : i = 0 := by omega
    exact h4 0 (by simp)⟩
theorem RdI.opens {w : World} {v : Value} {xs : List Int} (h : RdI S0 w v xs) : ∃ a c, v = .slice a xs.length c := let ⟨a, c, e, _⟩ := h.cells; ⟨a, c, e⟩
theorem calls_ints (xs : List Int) (a : Option Addr) (c : Nat) (w : World) (h : RdI S0 w (.slice a xs.length c) xs) (hl : xs.length ≤ 1000000) :
    Calls Try.prog 31 #[.slice a xs.length c] w fun e w' => ∃ a' c', e = .returned (.slice a' xs.length c') ∧ RdI S0 w' (.slice a' xs.length c') xs ∧ Ext w w' := by
  obtain ⟨_, _, e, hc, -, -, hn⟩ := h.cells
  cases e
  refine (law_ints xs a c w hc hn hl).mono ?_
  rintro e w' ⟨v, rfl, hO, hx⟩
  have hr := RdI.of_own (S := S0) hO (fun _ _ => id)
  obtain ⟨a', c', rfl⟩ := hr.opens
  exact ⟨a', c', rfl, hr, hx⟩
theorem calls_weeks (wks : List (List Int)) (a : Option Addr) (c : Nat) (w : World) (h : WksAt S0 w (.slice a wks.length c) wks) (hl : wks.length ≤ 1000) (hs : ∀ wk ∈ wks, wk.length ≤ 1000000) :
    Calls Try.prog 34 #[.slice a wks.length c] w fun e w' => ∃ a' c', e = .returned (.slice a' wks.length c') ∧ WksAt S0 w' (.slice a' wks.length c') wks ∧ Ext w w' := by
  refine (law_weeks wks a c w h hl hs).mono ?_
  rintro e w' ⟨v, rfl, hO, hx⟩
  obtain ⟨a', c', rfl, h2⟩ := hO
  exact ⟨a', c', rfl, ⟨_, _, rfl, h2⟩, hx⟩
theorem calls_wear (v : BrdV) (b : Brd) (worn week ys : List Int) (wa ka : Option Addr) (wc kc k : Nat) (w : World) (he : wearR b worn week (k : Int) = (ys, 0)) (h : BrdAt w v b) (hs : SmallB b) (hw : RdI S0 w (.slice wa worn.length wc) worn) (hk : RdI S0 w (.slice ka week.length kc) week) :
    Calls Try.prog 30 #[.agg (v.cells b), .slice wa worn.length wc, .slice ka week.length kc, .int .i64 k] w fun e w' => ∃ a c, e = .returned (.tuple #[.slice a ys.length c, .int .i64 0]) ∧ RdI S0 w' (.slice a ys.length c) ys ∧ Ext w w' := by
  refine (brd_Wear v b worn week wa ka wc kc k w h hs hw hk).mono ?_
  rw [he]
  rintro e w' ⟨u, rfl, hr, hx⟩
  obtain ⟨a', c', rfl⟩ := hr.opens
  exact ⟨a', c', rfl, hr, hx⟩
theorem calls_best (v : BrdV) (b : Brd) (worn week : List Int) (wa ka : Option Addr) (wc kc : Nat) (k m : Int) (w : World) (he : bestR b worn week = (k, m, 0)) (h : BrdAt w v b) (hs : SmallB b) (hw : RdI S0 w (.slice wa worn.length wc) worn) (hk : RdI S0 w (.slice ka week.length kc) week) :
    Calls Try.prog 32 #[.agg (v.cells b), .slice wa worn.length wc, .slice ka week.length kc] w fun e w' => e = .returned (.tuple #[.int .i64 k, .int .i64 m, .int .i64 0]) ∧ Ext w w' := by
  refine (brd_Best v b worn week wa ka wc kc w h hs hw hk).mono ?_
  rw [he]
  exact fun e w' h => h
theorem calls_plan (v : BrdV) (b : Brd) (worn ts : List Int) (wks : List (List Int)) (wa ka : Option Addr) (wc kc : Nat) (m : Int) (w : World) (he : planR b worn wks = (ts, m, 0)) (h : BrdAt w v b) (hs : SmallB b) (hw : RdI S0 w (.slice wa worn.length wc) worn) (hk : WksAt S0 w (.slice ka wks.length kc) wks) (hl : wks.length ≤ 1000000) :
    Calls Try.prog 33 #[.agg (v.cells b), .slice wa worn.length wc, .slice ka wks.length kc] w fun e w' => ∃ a c, e = .returned (.tuple #[.slice a ts.length c, .int .i64 m, .int .i64 0]) ∧ RdI S0 w' (.slice a ts.length c) ts ∧ Ext w w' := by
  refine (brd_Plan v b worn wks wa ka wc kc w h hs hw hk hl).mono ?_
  rw [he]
  rintro e w' ⟨u, rfl, hr, hx⟩
  obtain ⟨a', c', rfl⟩ := hr.opens
  exact ⟨a', c', rfl, hr, hx⟩
theorem calls_sum {n : Nat} {m : Int} (xs : List Int) (a : Option Addr) (c : Nat) (w : World) (h : RdI S0 w (.slice a xs.length c) xs) (hw : Wor n m xs) (hn : n ≤ 20) (hm : m ≤ 1000000000) :
    Calls Try.prog 36 #[.slice a xs.length c] w fun e w' => e = .returned (.int .i64 (sumL xs)) ∧ Ext w w' := by
  obtain ⟨_, _, e, hc, -, -, -⟩ := h.cells
  cases e
  exact law_sum xs a c w hc (by rw [hw.len]; omega) (fun y hy => by have := hw.pos y hy; omega)
theorem calls_most {n : Nat} {m : Int} (xs : List Int) (a : Option Addr) (c : Nat) (w : World) (h : RdI S0 w (.slice a xs.length c) xs) (hw : Wor n m xs) (hn : 0 < n ∧ n ≤ 20) :
    Calls Try.prog 35 #[.slice a xs.length c] w fun e w' => e = .returned (.int .i64 (maxL xs)) ∧ Ext w w' := by
  obtain ⟨_, _, e, hc, -, -, -⟩ := h.cells
  cases e
  rw [← mostL_max (by rw [hw.len]; exact hn.1) (fun y hy => (hw.pos y hy).1)]
  exact law_most xs a c w hc (by rw [hw.len]; omega)
/-- A list of integers that may be read. -/
def SlcS (n : Nat) (v : Value) : Prop := ∃ a c, v = .slice a n c
def Rik.rdi (xs : List Int) : Rik := ⟨true, SlcS xs.length, fun v w => RdI S0 w v xs, fun _ _ _ h hx => h.ext hx, .slice none xs.length 0, ⟨_, _, rfl⟩⟩
def Rik.wks (wks : List (List Int)) : Rik := ⟨true, SlcS wks.length, fun v w => WksAt S0 w v wks, fun _ _ _ h hx => h.ext hx, .slice none wks.length 0, ⟨_, _, rfl⟩⟩
def Tup1S (n : Nat) (v : Value) : Prop := ∃ a c, v = .tuple #[.slice a n c, .int .i64 0]
def Tup1T (xs : List Int) (v : Value) (w : World) : Prop := ∃ a c, v = .tuple #[.slice a xs.length c, .int .i64 0] ∧ RdI S0 w (.slice a xs.length c) xs
/-- A list, and no error. -/
def Rik.wrs (xs : List Int) : Rik := ⟨true, Tup1S xs.length, Tup1T xs, fun _ _ _ ⟨a, c, e, h⟩ hx => ⟨a, c, e, h.ext hx⟩, .tuple #[.slice none xs.length 0, .int .i64 0], ⟨_, _, rfl⟩⟩
def Tup2S (n : Nat) (m : Int) (v : Value) : Prop := ∃ a c, v = .tuple #[.slice a n c, .int .i64 m, .int .i64 0]
def Tup2T (xs : List Int) (m : Int) (v : Value) (w : World) : Prop := ∃ a c, v = .tuple #[.slice a xs.length c, .int .i64 m, .int .i64 0] ∧ RdI S0 w (.slice a xs.length c) xs
/-- A list, a number, and no error. -/
def Rik.pln (xs : List Int) (m : Int) : Rik := ⟨true, Tup2S xs.length m, Tup2T xs m, fun _ _ _ ⟨a, c, e, h⟩ hx => ⟨a, c, e, h.ext hx⟩, .tuple #[.slice none xs.length 0, .int .i64 m, .int .i64 0], ⟨_, _, rfl⟩⟩
theorem Tup1T.at {xs : List Int} {a : Option Addr} {c : Nat} {w : World} (h : Tup1T xs (.tuple #[.slice a xs.length c, .int .i64 0]) w) : RdI S0 w (.slice a xs.length c) xs := by
  obtain ⟨a', c', e, hc⟩ := h
  simp only [Value.tuple.injEq, Array.mk.injEq, List.cons.injEq, Value.slice.injEq, true_and, and_true] at e
  obtain ⟨rfl, rfl⟩ := e
  exact hc
theorem Tup2T.at {xs : List Int} {m : Int} {a : Option Addr} {c : Nat} {w : World} (h : Tup2T xs m (.tuple #[.slice a xs.length c, .int .i64 m, .int .i64 0]) w) : RdI S0 w (.slice a xs.length c) xs := by
  obtain ⟨a', c', e, hc⟩ := h
  simp only [Value.tuple.injEq, Array.mk.injEq, List.cons.injEq, Value.slice.injEq, true_and, and_true] at e
  obtain ⟨rfl, rfl⟩ := e
  exact hc
end Go.Proofs.Ytlkbbcfbnbnagaa
