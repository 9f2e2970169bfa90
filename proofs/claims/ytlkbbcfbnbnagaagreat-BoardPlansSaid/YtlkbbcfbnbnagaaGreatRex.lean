/-
  Regions that draw their order and only make memory: what each call handed back stays true. Over any program, but for the boards at the end.
-/
import Derived.Test.YtlkbbcfbnbnagaaGreatLbd
import Derived.Test.YtlkbbcfbnbnagaaGreatSen
import Derived.Test.YtlkbbcfbnbnagaaGreatBoX
namespace Go.Proofs.YtlkbbcfbnbnagaaGreat
open Go.RowKit Go.BigFrame
def BoaV (b : Brd) (v : Value) (s : Nat) (w : World) : Prop := ∃ v' : BrdV, v = .agg (v'.cells b) ∧ BrdAt w v' b ∧ BrdNil v' b ∧ Fre v' s
theorem BoaV.chg {b : Brd} {v : Value} {s : Nat} {w w' : World} {S : Nat → Prop} (h : BoaV b v s w) (hx : Chg S w w') (hs : ∀ k, S k → k < s) : BoaV b v s w' := by
  obtain ⟨v', e, hb, hn, hf⟩ := h
  refine ⟨v', e, ⟨fun i hi => ?_, fun i hi => ?_, fun i hi => ?_⟩, hn, hf⟩
  · obtain ⟨k, o, e, h0, h1⟩ := hb.rings i hi
    have hk : ¬ S k := fun h => by have := hs k h; have := hf k o (.inl e); omega
    exact ⟨k, o, e, hx.cell h0 hk, hx.cell h1 hk⟩
  · obtain ⟨k, o, e, h0, h1⟩ := hb.lines i hi
    have hk : ¬ S k := fun h => by have := hs k h; have := hf k o (.inr (.inl e)); omega
    exact ⟨k, o, e, hx.cell h0 hk, hx.cell h1 hk⟩
  · obtain ⟨k, o, e, h0⟩ := hb.nums i hi
    have hk : ¬ S k := fun h => by have := hs k h; have := hf k o (.inr (.inr e)); omega
    exact ⟨k, o, e, hx.cell h0 hk⟩
/-- What an operation hands back, and what is known of it in the world behind. -/
structure Rik where
  loud : Bool
  p : Value → Prop
  s : Value → World → Prop
  st : ∀ v w w', s v w → Ext w w' → s v w'
  w : Value
  ok : p w
def Rik.no : Rik := ⟨false, fun _ => True, fun _ _ => True, fun _ _ _ _ _ => trivial, undef, trivial⟩
def Rik.val (v : Value) : Rik := ⟨true, fun x => x = v, fun _ _ => True, fun _ _ _ _ _ => trivial, v, rfl⟩
def rAt (ks : List Rik) (k : Nat) : Rik := ks.getD k .no
theorem rAt_lt {ks : List Rik} {k : Nat} (h : (rAt ks k).loud = true) : k < ks.length := by
  by_cases hk : k < ks.length
  · exact hk
  · unfold rAt at h
    rw [List.getD_eq_getElem?_getD, List.getElem?_eq_none (by omega)] at h
    cases h
def RG (ks : List Rik) (L : Nat → Bool) (u : Nat → Value) (w : World) : Prop := ∀ k, (rAt ks k).loud = true → L k = true → (rAt ks k).s (u k) w
theorem wp_region_ext {P : Program} {id : Nat} {Q : Exit → Act → World → Prop} {a0 : Act} {w : World} {l : List Oper} (hm : P.follows .mixedOrders = true) (ks : List Rik) (hg : goodReg l.toArray a0.tmps.size = true) (hlen : ks.length ≤ l.length)
    (h : ∀ T, Stays T → Nonempty (LatT NoX w T) → ∀ u, (∀ k, (rAt ks k).loud = true → (rAt ks k).p (u k)) → Lx P l.toArray (fun w' => ∃ x : Lat NoX w, w' = x.world) (fun k => (rAt ks k).loud) (fun k => (rAt ks k).p) (RG ks) (fun w' => ∃ x : LatT NoX w T, w' = x.toLat.world) u
      (fun a => ∀ x : Lat NoX w, RG ks (fun _ => true) u x.world → Q .normal a x.world) 0 l a0) : (Code.region id l.toArray true).wp P Q a0 w :=
  wp_region_lat hm NoX (fun k => (rAt ks k).loud) (fun k => (rAt ks k).p) (RG ks) hg (fun k hk => Nat.lt_of_lt_of_le (rAt_lt hk) hlen) (fun L L' u w hh hs k hk hl => hs k hk (by rw [← hh k hk]; exact hl)) (fun L u w w' hs hx k hk hl => (rAt ks k).st _ _ _ (hs k hk hl) hx)
    (fun k => (rAt ks k).w) (fun k _ => (rAt ks k).ok) (fun k _ h => by cases h) h
/-- Behind a call. -/
theorem rik_call {ks : List Rik} {i : Nat} {w0 w' : World} {L : Nat → Bool} {u : Nat → Value} {v : Value} (x : Lat NoX w0) (hs : RG ks L u x.world) (hk : (rAt ks i).p v) (hx : Ext x.world w') (hi : (rAt ks i).s v w') : (rAt ks i).p v ∧ (∃ y : Lat NoX w0, w' = y.world) ∧ RG ks (upd L i) (updv u i v) w' := by
  refine ⟨hk, ⟨x.ext hx, rfl⟩, fun k h1 h2 => ?_⟩
  unfold updv
  by_cases e : k = i
  · subst e; rw [if_pos rfl]; exact hi
  · rw [if_neg e]
    refine (rAt ks k).st _ _ _ (hs k h1 ?_) hx
    simpa [upd, e] using h2
theorem Closed.on {ops : Array Oper} {L : Nat → Bool} (hc : Closed ops L) {i j : Nat} (f : Nat) (hj : L j = true) (h : reach ops i f j = true) : L i = true := by
  cases hi : L i
  · have := hc.off hi f j h; rw [hj] at this; cases this
  · rfl
/-- A board (c) whose slices are as long as those of b. -/
def BoaS (b : Brd) (v : Value) : Prop := ∃ a1 a2 a3 c1 c2 c3, v = .agg #[.int .i64 b.eye, .int .i64 b.bull, .slice a1 b.rings.length c1, .slice a2 b.lines.length c2, .slice a3 b.nums.length c3, .int .i64 b.wire]
def boaW (b : Brd) : Value := .agg #[.int .i64 b.eye, .int .i64 b.bull, .slice none b.rings.length 0, .slice none b.lines.length 0, .slice none b.nums.length 0, .int .i64 b.wire]
theorem boaW_ok (b : Brd) : BoaS b (boaW b) := ⟨_, _, _, _, _, _, rfl⟩
def BoaT (b c : Brd) (v : Value) (w : World) : Prop := ∃ v' : BrdV, v = .agg (v'.cells b) ∧ BrdAt w v' c ∧ BrdNil v' c
theorem BoaT.at {b c : Brd} {a1 a2 a3 : Option Addr} {c1 c2 c3 : Nat} {w : World} (h : BoaT b c (.agg #[.int .i64 b.eye, .int .i64 b.bull, .slice a1 b.rings.length c1, .slice a2 b.lines.length c2, .slice a3 b.nums.length c3, .int .i64 b.wire]) w) : BrdAt w ⟨a1, a2, a3, c1, c2, c3⟩ c ∧ BrdNil ⟨a1, a2, a3, c1, c2, c3⟩ c := by
  obtain ⟨⟨d1, d2, d3, e1, e2, e3⟩, e, h1, h2⟩ := h
  unfold BrdV.cells at e
  simp only [Value.agg.injEq, Array.mk.injEq, List.cons.injEq, Value.slice.injEq, true_and, and_true] at e
  obtain ⟨⟨rfl, rfl⟩, ⟨rfl, rfl⟩, rfl, rfl⟩ := e
  exact ⟨h1, h2⟩
def Rik.boa (b c : Brd) : Rik := ⟨true, BoaS b, BoaT b c, fun _ _ _ ⟨v', e, h1, h2⟩ hx => ⟨v', e, h1.ext hx, h2⟩, boaW b, boaW_ok b⟩
/-- The same for regions that write: where its memory lies is known. -/
def BoaF (b c : Brd) (v : Value) (s : Nat) (w : World) : Prop := ∃ v' : BrdV, v = .agg (v'.cells b) ∧ BrdAt w v' c ∧ BrdNil v' c ∧ Fre v' s
theorem BoaF.chg {b c : Brd} {v : Value} {s : Nat} {w w' : World} {S : Nat → Prop} (h : BoaF b c v s w) (hx : Chg S w w') (hs : ∀ k, S k → k < s) : BoaF b c v s w' := by
  obtain ⟨v', e, hb, hn, hf⟩ := h
  obtain ⟨v2, e2, hb2, -, -⟩ := BoaV.chg (b := c) ⟨v', rfl, hb, hn, hf⟩ hx hs
  refine ⟨v', e, ?_, hn, hf⟩
  obtain ⟨d1, d2, d3, d4, d5, d6⟩ := v2
  obtain ⟨a1, a2, a3, a4, a5, a6⟩ := v'
  unfold BrdV.cells at e2
  simp only [Value.agg.injEq, Array.mk.injEq, List.cons.injEq, Value.slice.injEq, true_and, and_true] at e2
  obtain ⟨⟨rfl, rfl⟩, ⟨rfl, rfl⟩, rfl, rfl⟩ := e2
  exact hb2
/-- A turned board, from a copy. -/
def TrnS (b : Brd) (v : Value) : Prop := ∃ a1 a2 a3 c1 c2 c3, v = .tuple #[.agg #[.int .i64 b.eye, .int .i64 b.bull, .slice a1 b.rings.length c1, .slice a2 b.lines.length c2, .slice a3 b.nums.length c3, .int .i64 b.wire], .int .i64 0]
def trnW (b : Brd) : Value := .tuple #[boaW b, .int .i64 0]
theorem trnW_ok (b : Brd) : TrnS b (trnW b) := ⟨_, _, _, _, _, _, rfl⟩
def TrnF (b : Brd) (v1 v7 : Value) (s : Nat) (w : World) : Prop := ∃ v' v'' : BrdV, v1 = .agg (v'.cells b) ∧ v7 = .tuple #[.agg (v''.cells b), .int .i64 0] ∧ TurV v' v'' b.nums.length s ∧ CellsAt w .i64 v''.na b.nums
theorem TrnF.chg {b : Brd} {v1 v7 : Value} {s : Nat} {w w' : World} {S : Nat → Prop} (h : TrnF b v1 v7 s w) (hx : Chg S w w') (hs : ∀ k, S k → k < s) : TrnF b v1 v7 s w' := by
  obtain ⟨v', v'', e1, e2, ht, hc⟩ := h
  refine ⟨v', v'', e1, e2, ht, fun i hi => ?_⟩
  obtain ⟨k, o, e, h0⟩ := hc i hi
  have hk : ¬ S k := fun h => by have := hs k h; have := ht.1 k o e; omega
  exact ⟨k, o, e, hx.cell h0 hk⟩
theorem trn_join {b c : Brd} {v1 : Value} {a1 a2 a3 : Option Addr} {c1 c2 c3 : Nat} {s1 s2 : Nat} {w : World} (h1 : BoaF b c v1 s1 w) (h7 : TrnF b v1 (.tuple #[.agg #[.int .i64 b.eye, .int .i64 b.bull, .slice a1 b.rings.length c1, .slice a2 b.lines.length c2, .slice a3 b.nums.length c3, .int .i64 b.wire], .int .i64 0]) s2 w) (hr : c.rings = b.rings) (hl : c.lines = b.lines) : BrdAt w ⟨a1, a2, a3, c1, c2, c3⟩ b := by
  obtain ⟨⟨x1, x2, x3, y1, y2, y3⟩, rfl, hb, -, -⟩ := h1
  obtain ⟨⟨p1, p2, p3, q1, q2, q3⟩, ⟨d1, d2, d3, e1, e2, e3⟩, f1, f7, ⟨-, ht1, ht2, ht3, ht4, -⟩, hc⟩ := h7
  unfold BrdV.cells at f1 f7
  simp only [Value.tuple.injEq, Value.agg.injEq, Array.mk.injEq, List.cons.injEq, Value.slice.injEq, true_and, and_true] at f1 f7 ht1 ht2 ht3 ht4
  obtain ⟨⟨rfl, rfl⟩, ⟨rfl, rfl⟩, rfl, rfl⟩ := f1
  obtain ⟨⟨rfl, rfl⟩, ⟨rfl, rfl⟩, rfl, rfl⟩ := f7
  subst ht1 ht2 ht3 ht4
  refine ⟨?_, ?_, hc⟩
  · have := hb.rings; rw [hr] at this; exact this
  · have := hb.lines; rw [hl] at this; exact this
theorem RdI.ext {w w' : World} {v : Value} {xs : List Int} (h : RdI S0 w v xs) (hx : Ext w w') : RdI S0 w' v xs := h.keep (Kc.of_ext hx)
theorem WksAt.ext {w w' : World} {v : Value} {wks : List (List Int)} (h : WksAt S0 w v wks) (hx : Ext w w') : WksAt S0 w' v wks := h.keep (Kc.of_ext hx)
theorem RdI.opens {w : World} {v : Value} {xs : List Int} (h : RdI S0 w v xs) : ∃ a c, v = .slice a xs.length c := let ⟨a, c, e, _⟩ := h.cells; ⟨a, c, e⟩
/-- A list of integers that may be read. -/
def SlcS (n : Nat) (v : Value) : Prop := ∃ a c, v = .slice a n c
def Rik.rdi (xs : List Int) : Rik := ⟨true, SlcS xs.length, fun v w => RdI S0 w v xs, fun _ _ _ h hx => h.ext hx, .slice none xs.length 0, ⟨_, _, rfl⟩⟩
def Rik.wks (wks : List (List Int)) : Rik := ⟨true, SlcS wks.length, fun v w => WksAt S0 w v wks, fun _ _ _ h hx => h.ext hx, .slice none wks.length 0, ⟨_, _, rfl⟩⟩
def Tup1S (n : Nat) (v : Value) : Prop := ∃ a c, v = .tuple #[.slice a n c, .int .i64 0]
def Tup1T (xs : List Int) (v : Value) (w : World) : Prop := ∃ a c, v = .tuple #[.slice a xs.length c, .int .i64 0] ∧ RdI S0 w (.slice a xs.length c) xs
/-- A list, and no error. -/
def Rik.wrs (xs : List Int) : Rik := ⟨true, Tup1S xs.length, Tup1T xs, fun _ _ _ ⟨a, c, e, h⟩ hx => ⟨a, c, e, h.ext hx⟩, .tuple #[.slice none xs.length 0, .int .i64 0], ⟨_, _, rfl⟩⟩
def Tup2S (n : Nat) (m : Int) (v : Value) : Prop := ∃ a c, v = .tuple #[.slice a n c, .int .i64 m, .int .i64 0]
def Tup2T (xs : List Int) (m : Int) (v : Value) (w : World) : Prop := ∃ a c, v = .tuple #[.slice a xs.length c, .int .i64 m, .int .i64 0] ∧ RdI S0 w (.slice a xs.length c) xs
/-- A list, a number, and no error. -/
def Rik.pln (xs : List Int) (m : Int) : Rik := ⟨true, Tup2S xs.length m, Tup2T xs m, fun _ _ _ ⟨a, c, e, h⟩ hx => ⟨a, c, e, h.ext hx⟩, .tuple #[.slice none xs.length 0, .int .i64 m, .int .i64 0], ⟨_, _, rfl⟩⟩
theorem Tup1T.at {xs : List Int} {a : Option Addr} {c : Nat} {w : World} (h : Tup1T xs (.tuple #[.slice a xs.length c, .int .i64 0]) w) : RdI S0 w (.slice a xs.length c) xs := by
  obtain ⟨a', c', e, hc⟩ := h
  simp only [Value.tuple.injEq, Array.mk.injEq, List.cons.injEq, Value.slice.injEq, true_and, and_true] at e
  obtain ⟨rfl, rfl⟩ := e
  exact hc
theorem Tup2T.at {xs : List Int} {m : Int} {a : Option Addr} {c : Nat} {w : World} (h : Tup2T xs m (.tuple #[.slice a xs.length c, .int .i64 m, .int .i64 0]) w) : RdI S0 w (.slice a xs.length c) xs := by
  obtain ⟨a', c', e, hc⟩ := h
  simp only [Value.tuple.injEq, Array.mk.injEq, List.cons.injEq, Value.slice.injEq, true_and, and_true] at e
  obtain ⟨rfl, rfl⟩ := e
  exact hc
end Go.Proofs.YtlkbbcfbnbnagaaGreat
