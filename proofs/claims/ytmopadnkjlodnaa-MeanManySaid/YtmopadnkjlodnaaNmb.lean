/-
  MeanMany: legs in rows of memory; a leg that is told and given to Exact, in a region that draws its order.
-/
import Derived.Test.YtmopadnkjlodnaaNte
import Derived.Test.YtmopadnkjlodnaaNtj
namespace Go.Proofs.Ytmopadnkjlodnaa
open Go.RowKit Go.BigFrame
theorem own_take {w : World} {base : Nat} {e : TypeId} {size n m : Nat} {a : Option Addr} {c : Nat} {xs : List Value} (h : w.ownsRow base e size (.slice a n c) n xs) (hm : m ≤ n) : w.ownsRow base e size (.slice a m c) m (xs.take (m * size)) := by
  have hms : m * size ≤ n * size := Nat.mul_le_mul_right size hm
  obtain ⟨h1, ⟨e1, h2⟩ | ⟨g, cap, cur, e1, h2, h3, h4, h5, h6, h7⟩⟩ := h
  · subst h2
    obtain rfl : m = 0 := by omega
    cases e1
    exact ⟨by simp, .inl ⟨rfl, rfl⟩⟩
  · cases e1
    refine ⟨by rw [List.length_take, h1]; omega, .inr ⟨g, c, cur, rfl, h2, h3, by omega, h5, h6, ?_⟩⟩
    rw [← h7, List.take_take, Nat.min_eq_left hms]
theorem own_some {w : World} {base : Nat} {e : TypeId} {size n : Nat} {a : Option Addr} {c : Nat} {xs : List Value} (h : w.ownsRow base e size (.slice a n c) n xs) (hn : 0 < n) : ∃ g, a = some ⟨g, 0, none⟩ ∧ n ≤ c ∧ base ≤ g := by
  obtain ⟨-, ⟨-, h2⟩ | ⟨g, cap, cur, e1, h2, -, h4, -⟩⟩ := h
  · omega
  · cases e1
    exact ⟨g, rfl, h4, h2⟩
theorem OwnI.take {w : World} {base : Nat} {a : Option Addr} {c : Nat} {xs : List Int} (h : OwnI w base (.slice a xs.length c) xs) (m : Nat) (hm : m ≤ xs.length) : OwnI w base (.slice a (xs.take m).length c) (xs.take m) := by
  have h' := own_take h hm
  unfold OwnI
  rw [List.length_take, Nat.min_eq_left hm, List.map_take]
  rw [Nat.mul_one] at h'
  exact h'
theorem OwnI.take' {w : World} {base : Nat} {a : Option Addr} {c : Nat} {xs : List Int} (h : OwnI w base (.slice a xs.length c) xs) (m : Nat) : OwnI w base (.slice a (xs.take m).length c) (xs.take m) := by
  by_cases hm : m ≤ xs.length
  · exact h.take m hm
  · rw [List.take_of_length_le (by omega)]
    exact h
theorem LgsO.row {w : World} {base : Nat} {v : Value} {ls : List Leg} (h : LgsO w base v ls) : ∃ vals : List Value, w.ownsRow base 28 6 v ls.length vals ∧ vals.length = 6 * ls.length ∧ ∀ i (h : i < ls.length), ∃ ba sa bc sc, (∀ j u, (ls[i].cells ba sa bc sc)[j]? = some u → vals[6 * i + j]? = some u) ∧ OwnD w base (.slice ba ls[i].beds.length bc) ls[i].beds ∧ OwnI w base (.slice sa ls[i].scores.length sc) ls[i].scores := h
/-- Another row of legs has grown. -/
theorem LgsO.keep {w w' : World} {base b2 : Nat} {v u : Value} {n : Nat} {ys : List Value} {ls : List Leg} (h : LgsO w base v ls) (hu : w.ownsRow b2 28 6 u n ys) (hx : Chg (fun k => u.ownBlock = some k) w w') (hd : ∀ k, v.ownBlock = some k → ¬ u.ownBlock = some k) : LgsO w' base v ls := by
  obtain ⟨vals, h1, h2, h3⟩ := h
  exact ⟨vals, own_chg h1 hx hd, h2, fun i hi => let ⟨ba, sa, bc, sc, k1, k2, k3⟩ := h3 i hi; ⟨ba, sa, bc, sc, k1, own_chg k2 hx (lg_ne hu k2 (by decide)), own_chg k3 hx (lg_ne hu k3 (by decide))⟩⟩
/-- A block of one leg has been written. -/
theorem LgsO.keepB {w w' : World} {base b : Nat} {v : Value} {cs : Array Value} {ls : List Leg} (h : LgsO w base v ls) (hu : BlkT w b cs 28) (hx : Chg (· = b) w w') (hd : ∀ k, v.ownBlock = some k → ¬ k = b) : LgsO w' base v ls := by
  obtain ⟨vals, h1, h2, h3⟩ := h
  exact ⟨vals, own_chg h1 hx hd, h2, fun i hi => let ⟨ba, sa, bc, sc, k1, k2, k3⟩ := h3 i hi; ⟨ba, sa, bc, sc, k1, own_chg k2 hx (own_neT k2 hu (by decide)), own_chg k3 hx (own_neT k3 hu (by decide))⟩⟩
theorem LgsO.mono {w : World} {base base' : Nat} {v : Value} {ls : List Leg} (h : LgsO w base v ls) (hb : base' ≤ base) : LgsO w base' v ls := by
  obtain ⟨vals, h1, h2, h3⟩ := h
  exact ⟨vals, own_mono h1 hb, h2, fun i hi => let ⟨ba, sa, bc, sc, k1, k2, k3⟩ := h3 i hi; ⟨ba, sa, bc, sc, k1, own_mono k2 hb, own_mono k3 hb⟩⟩
/-- The k-th leg of a row, as it lies. -/
theorem LgsO.at_ {w : World} {base : Nat} {a : Option Addr} {n c : Nat} {ls : List Leg} (h : LgsO w base (.slice a n c) ls) {k : Nat} (hk : k < ls.length) : ∃ g ba sa bc sc, a = some ⟨g, 0, none⟩ ∧ (∀ j u, (ls[k].cells ba sa bc sc)[j]? = some u → w.cell? ⟨g, 6 * k + j, none⟩ = some u) ∧ OwnD w base (.slice ba ls[k].beds.length bc) ls[k].beds ∧ OwnI w base (.slice sa ls[k].scores.length sc) ls[k].scores := by
  obtain ⟨vals, h1, h2, h3⟩ := h
  obtain ⟨ba, sa, bc, sc, k1, k2, k3⟩ := h3 k hk
  have hc := fun g (hg : (Value.slice a n c).ownBlock = some g) => World.ownsRow.cells (w := w) (g := g) h1 hg
  obtain ⟨-, ⟨-, e2⟩ | ⟨g, cap, cur, e1, -⟩⟩ := h1
  · omega
  · cases e1
    refine ⟨g, ba, sa, bc, sc, rfl, fun j u hu => ?_, k2, k3⟩
    have := hc g rfl (6 * k + j) u (k1 j u hu)
    rwa [addr_add, Nat.zero_add] at this
theorem LgsA.take {w : World} {a : Option Addr} {ls : List Leg} (h : LgsA w a ls) (q : Nat) : LgsA w a (ls.take q) := by
  intro i hi
  have hi' : i < ls.length := by rw [List.length_take] at hi; omega
  rw [List.getElem_take]
  exact h i hi'
theorem LgsA.drop {w : World} {g : Nat} {ls : List Leg} (h : LgsA w (some ⟨g, 0, none⟩) ls) (q : Nat) : LgsA w (some ⟨g, q * 6, none⟩) (ls.drop q) := by
  intro i hi
  have hi' : q + i < ls.length := by rw [List.length_drop] at hi; omega
  rw [List.getElem_drop]
  obtain ⟨b, o, ba, sa, bc, sc, e, h1, h2⟩ := h (q + i) hi'
  cases e
  refine ⟨g, q * 6, ba, sa, bc, sc, rfl, fun j u hu => ?_, h2⟩
  have := h1 j u hu
  rw [show 0 + (q + i) * 6 + j = q * 6 + i * 6 + j by omega] at this
  exact this
/-- The totals' cells in what Exact hands back. -/
def totC7 : Value → Array Value
  | .tuple cs => match cs.getD 0 undef with
    | .agg l => l
    | _ => #[]
  | _ => #[]
/-- A leg of the night, as it was thrown. -/
structure TalF (start gin gout : Int) (bl : List Int) (vs : List (List Int)) (x : Exa) : Prop where
  run : rxG gin gout bl vs 0 (exa0 start) = .inl x
  tlx : TlX start gout vs.length x
  len : vs.length ≤ 15 ∧ (x.won = false → vs.length = 15)
  mem : ∀ l ∈ vs, (1 ≤ l.length ∧ l.length ≤ 3) ∧ ∀ b ∈ l, BedOk b
/-- A tale's visits, given to Exact. -/
theorem exact_tal {start gin gout : Int} {bl : List Int} (hst : 2 ≤ start ∧ start ≤ 512) (hl : lawsB start gin gout bl = true) (hi : ∀ b ∈ bl, I64 b) {vs : List (List Int)} {x : Exa} (hF : TalF start gin gout bl vs x) (W : World) (s0 : Nat) (a3 : Option Addr) (c3 : Nat) (a6 : Option Addr) (c6 : Nat) (h3 : OwnD W s0 (.slice a3 bl.length c3) bl) (h6 : WaysAt W s0 (.slice a6 vs.length c6) vs) :
    Calls Try.prog 30 #[.agg #[.int .i64 start, .int .i64 gin, .int .i64 gout], .slice a3 bl.length c3, .slice a6 vs.length c6] W fun e w' => (∃ la lc sa sc, e = .returned (.tuple #[.agg #[.int .i64 x.t.legs, .int .i64 x.t.won, .int .i64 x.t.visits, .int .i64 x.t.points, .int .i64 x.t.darts.lo, .int .i64 x.t.darts.hi, .int .i64 x.t.tried.lo, .int .i64 x.t.tried.hi, .int .i64 x.t.tons, .int .i64 x.t.highs, .int .i64 x.t.tops, .int .i64 x.t.best], .agg #[.int .i64 start, .int .i64 gin, .int .i64 gout, .slice la bl.length lc, .slice sa x.scores.length sc, .bool x.won], .int .i64 0, .int .i64 0]) ∧ OwnD w' W.heap.size (.slice la bl.length lc) bl ∧ OwnI w' W.heap.size (.slice sa x.scores.length sc) x.scores) ∧ Ext W w' := by
  have hv : ∀ v ∈ vs, v.length ≤ 1000 ∧ ∀ y ∈ v, I64 y := fun v hv => by
    obtain ⟨h1, h2⟩ := hF.mem v hv
    exact ⟨by omega, fun y hy => by have := (h2 y hy).parts.1; exact ⟨by omega, by omega⟩⟩
  have he : exaF start gin gout bl vs = .inl x := by
    rw [exa_ref]
    unfold rxF
    rw [if_neg (by rw [hl]; decide), if_neg (by have := hF.len; omega)]
    exact hF.run
  obtain ⟨a', c', e', h'⟩ := ways_vsa h6 (fun v h => (hv v h).2)
  cases e'
  refine (mean_Exact start gin gout bl a3 c3 vs a6 c6 W ⟨by omega, by omega⟩ (h3.rd (fun _ _ h => h)) hi (h'.vss (fun v h => (hv v h).1)) (by have := hF.len; omega)).mono ?_
  rintro e w' ⟨h1, h2⟩
  rw [he] at h1
  exact ⟨h1, h2⟩
/-- A leg of the night is one that was thrown. -/
theorem TalF.ok {start gin gout : Int} {bl : List Int} {vs : List (List Int)} {x : Exa} (h : TalF start gin gout bl vs x) (hl : lawsB start gin gout bl = true) : (Tld.mk start gin gout vs x).ok bl := by
  refine ⟨hl, h.run, ?_, h.len.1⟩
  show 1 ≤ vs.length
  rcases Nat.eq_zero_or_pos vs.length with h0 | h0
  · have h4 := List.length_eq_zero_iff.1 h0
    have h3 := h.run
    rw [h4] at h3
    injection h3 with h3
    have h5 := h.len.2 (by rw [← h3]; rfl)
    omega
  · exact h0
/-- What is known while a leg is told, given to Exact and put into two variables (operations: i1 an empty list, i3 the beds, i9 the tale, i11 the call, i17 i18 the variables, i19 i20 the stores). -/
structure G12 (s0 : Nat) (bl : List Int) (start gin gout : Int) (L : Nat → Bool) (u : Nat → Value) (W : World) : Prop where
  app : L 3 = true → L 11 = false → OwnD W s0 (u 3) bl
  tal : L 9 = true → L 11 = false → ∃ vs x va vc p d t z, TalF start gin gout bl vs x ∧ u 9 = .agg #[.slice va vs.length vc, .int .i64 p, .int .i64 d, .int .i64 t, .bool z] ∧ WaysAt W s0 (.slice va vs.length vc) vs
  exa : L 11 = true → ∃ vs x la lc sa sc, TalF start gin gout bl vs x ∧ ExaV start gin gout bl x (u 11) la lc sa sc ∧ OwnD W s0 (.slice la bl.length lc) bl ∧ OwnI W s0 (.slice sa x.scores.length sc) x.scores
  b17 : L 17 = true → ∃ k, u 17 = .pointer (some ⟨k, 0, none⟩) ∧ s0 ≤ k ∧ BlkT W k (bif L 19 then totC7 (u 11) else tot0.cells) 55
  b18 : L 18 = true → ∃ k, u 18 = .pointer (some ⟨k, 0, none⟩) ∧ s0 ≤ k ∧ BlkT W k (bif L 20 then legC7 (u 11) else leg0C) 28
theorem G12.congr {s0 : Nat} {bl : List Int} {start gin gout : Int} {L L' : Nat → Bool} {u u' : Nat → Value} {W : World} (h : G12 s0 bl start gin gout L u W) (h3 : L' 3 = L 3) (h9 : L' 9 = L 9) (h11 : L' 11 = L 11) (h17 : L' 17 = L 17) (h18 : L' 18 = L 18) (h19 : L' 19 = L 19) (h20 : L' 20 = L 20) (u3 : u' 3 = u 3) (u9 : u' 9 = u 9) (u11 : u' 11 = u 11) (u17 : u' 17 = u 17) (u18 : u' 18 = u 18) : G12 s0 bl start gin gout L' u' W :=
  ⟨by rw [h3, h11, u3]; exact h.app, by rw [h9, h11, u9]; exact h.tal, by rw [h11, u11]; exact h.exa, by rw [h17, h19, u17, u11]; exact h.b17, by rw [h18, h20, u18, u11]; exact h.b18⟩
theorem G12.ext {s0 : Nat} {bl : List Int} {start gin gout : Int} {L : Nat → Bool} {u : Nat → Value} {W W' : World} (h : G12 s0 bl start gin gout L u W) (hx : Ext W W') : G12 s0 bl start gin gout L u W' :=
  ⟨fun e f => OwnD.ext (h.app e f) hx, fun e f => let ⟨vs, x, va, vc, p, d, t, z, h1, h2, h3⟩ := h.tal e f; ⟨vs, x, va, vc, p, d, t, z, h1, h2, h3.ext hx⟩, fun e => let ⟨vs, x, la, lc, sa, sc, h0, h1, h2, h3⟩ := h.exa e; ⟨vs, x, la, lc, sa, sc, h0, h1, OwnD.ext h2 hx, own_chg h3 (hx.chg fun _ => False) fun _ _ => id⟩, fun e => let ⟨k, h1, h2, h3⟩ := h.b17 e; ⟨k, h1, h2, h3.ext hx⟩, fun e => let ⟨k, h1, h2, h3⟩ := h.b18 e; ⟨k, h1, h2, h3.ext hx⟩⟩
def R12 (bl : List Int) (start gin gout : Int) (k : Nat) (v : Value) : Prop := (k = 1 → ∃ b, v = .slice (some ⟨b, 0, none⟩) 0 0) ∧ (k = 3 → ∃ a c, v = .slice a bl.length c) ∧ (k = 9 → ∃ (a : Option Addr) (n c : Nat) (p d t : Int) (z : Bool), v = .agg #[.slice a n c, .int .i64 p, .int .i64 d, .int .i64 t, .bool z]) ∧ (k = 11 → ∃ (t0 t1 t2 t3 t4 t5 t6 t7 t8 t9 t10 t11 : Int) (la : Option Addr) (lc : Nat) (sa : Option Addr) (sn sc : Nat) (z : Bool), v = .tuple #[.agg #[.int .i64 t0, .int .i64 t1, .int .i64 t2, .int .i64 t3, .int .i64 t4, .int .i64 t5, .int .i64 t6, .int .i64 t7, .int .i64 t8, .int .i64 t9, .int .i64 t10, .int .i64 t11], .agg #[.int .i64 start, .int .i64 gin, .int .i64 gout, .slice la bl.length lc, .slice sa sn sc, .bool z], .int .i64 0, .int .i64 0]) ∧ (k = 17 → ∃ b, v = .pointer (some ⟨b, 0, none⟩)) ∧ (k = 18 → ∃ b, v = .pointer (some ⟨b, 0, none⟩))
def w12W (bl : List Int) (start gin gout : Int) (k : Nat) : Value := if k = 1 then .slice (some ⟨0, 0, none⟩) 0 0 else if k = 3 then .slice none bl.length 0 else if k = 9 then .agg #[.slice none 0 0, .int .i64 0, .int .i64 0, .int .i64 0, .bool false] else if k = 11 then .tuple #[.agg tot0.cells, .agg #[.int .i64 start, .int .i64 gin, .int .i64 gout, .slice none bl.length 0, .slice none 0 0, .bool false], .int .i64 0, .int .i64 0] else .pointer (some ⟨0, 0, none⟩)
theorem w12W_ok (bl : List Int) (start gin gout : Int) (k : Nat) : R12 bl start gin gout k (w12W bl start gin gout k) := by
  unfold R12 w12W
  refine ⟨?_, ?_, ?_, ?_, ?_, ?_⟩ <;> rintro rfl
  · exact ⟨0, rfl⟩
  · exact ⟨none, 0, rfl⟩
  · exact ⟨none, 0, 0, 0, 0, 0, false, rfl⟩
  · exact ⟨0, 0, 0, 0, 0, 0, 0, 0, 0, 0, 0, 0, none, 0, none, 0, 0, false, rfl⟩
  · exact ⟨0, rfl⟩
  · exact ⟨0, rfl⟩
end Go.Proofs.Ytmopadnkjlodnaa
