/-
  The laws of chapter 6: a leg that is told to Exact, in a region that draws its order (what is known while it goes).
-/
import Derived.Test.YtmopadnkjlodnaaNtd
import Derived.Test.YtmopadnkjlodnaaNtl
import Derived.Test.YtmopadnkjlodnaaMtd
namespace Go.Proofs.Ytmopadnkjlodnaa
open Go.RowKit Go.BigFrame
/-- An append that must make memory. -/
theorem wp_append_new {P : Program} {w : World} {ops : Array Oper} {rest : List Oper} {o : Oper} {a : Act} {Q : Exit → Act → World → Prop} (hgd : o.guard = none) (s x : Operand) (t e : TypeId) (z : Value) (size bytes : Nat)
    (ho : o.op = .call { callee := .builtin .append, args := #[s, x], argTypes := #[t, t] }) (hinfo : (P.info? e).map (fun i => (i.zero, i.size, i.bytes)) = some (some z, size, bytes)) (ht : P.underlying t = some (.slice e)) (hzs : z.cells.size = size) (hpos : 0 < size)
    (b : Addr) (hs : a.eval s = .slice (some b) 0 0) (ad : Addr) (m c : Nat) (news : List Value) (hx : a.eval x = .slice (some ad) m c) (hl : news.length = m * size) (hc : ∀ j u, news[j]? = some u → w.cell? (ad.add j) = some u) (hm : 0 < m) (hsz : m ≤ 1000000000) (hby : bytes ≤ 100000)
    (h : ∀ v' w', w'.ownsRow w.heap.size e size v' m news → Ext w w' → wpList P ops Q rest (a.put o.dst v') w') : wpList P ops Q (o :: rest) a w := by
  obtain ⟨i0, hi, hz0, hz1, hz2⟩ := info_parts hinfo
  obtain ⟨v', w', hrun, r1, r2⟩ := run_append_arg_grows (P := P) w t o.type e i0 z size bytes ht hi hz0 hz1 hz2 hzs hpos b 0 0 [] (by simp) (by simp) ad m c news hl hc (by omega) (by unfold maxLen; omega) (by
    have := Nat.mul_le_mul (by omega : 0 + m ≤ 1000000000) hby
    exact Nat.le_trans this (by decide))
  rw [Nat.zero_add, List.nil_append] at r1
  refine wpList_plain hgd fun K hK => ?_
  unfold Oper.wp execOp
  simp only [ho, resolve, Sem.run_bind, Sem.run_pure, Result.andThen_ok]
  simp [invoke, builtin, hs, hx, hrun, Result.andThen]
  exact hK _ _ (h v' w' r1 (Ext.of_grown r2))
/-- A block with its type. -/
def BlkT (w : World) (b : Nat) (cs : Array Value) (t : TypeId) : Prop := w.heap[b]? = some (.cells cs t (0, 0))
theorem BlkT.blk {w : World} {b : Nat} {cs : Array Value} {t : TypeId} (h : BlkT w b cs t) : Blk w b cs := ⟨t, h⟩
theorem BlkT.ext {w w' : World} {b : Nat} {cs : Array Value} {t : TypeId} (h : BlkT w b cs t) (hx : Ext w w') : BlkT w' b cs t := hx.heap h
theorem BlkT.chg {S : Nat → Prop} {w w' : World} {b : Nat} {cs : Array Value} {t : TypeId} (h : BlkT w b cs t) (hx : Chg S w w') (hs : ¬ S b) : BlkT w' b cs t := hx.heap h hs
theorem BlkT.new (w : World) (cs : Array Value) (t : TypeId) : BlkT (w.alloc (.cells cs t)) w.heap.size cs t := by show (w.heap.push _)[w.heap.size]? = _; simp
theorem BlkT.set {w : World} {b : Nat} {cs : Array Value} {t : TypeId} (h : BlkT w b cs t) (j : Nat) (v : Value) : BlkT (w.setCell ⟨b, j, none⟩ v) b (cs.setIfInBounds j v) t := by
  obtain ⟨hlt, he⟩ := Array.getElem?_eq_some_iff.1 h
  unfold BlkT
  simp only [World.setCell]
  rw [Array.getElem?_eq_getElem (by rw [Array.size_modify]; exact hlt), Array.getElem_modify_self, he]
  rfl
theorem BlkT.ne {w : World} {b b' : Nat} {cs cs' : Array Value} {t t' : TypeId} (h : BlkT w b cs t) (h' : BlkT w b' cs' t') (hne : t ≠ t') : b ≠ b' := by
  rintro rfl
  unfold BlkT at h h'
  rw [h] at h'
  injection h' with h'
  injection h' with _ e _
  exact hne e
theorem own_neT {w : World} {base : Nat} {e t : TypeId} {size n : Nat} {v : Value} {xs : List Value} {b : Nat} {cs : Array Value} (h : w.ownsRow base e size v n xs) (hb : BlkT w b cs t) (hne : e ≠ t) : ∀ k, v.ownBlock = some k → k ≠ b := by
  rintro k hk rfl
  obtain ⟨_, h1⟩ := own_type h hk
  unfold BlkT at hb
  rw [h1] at hb
  injection hb with hb
  injection hb with _ e' _
  exact hne e'
theorem six_setT {w : World} {b : Nat} {t : TypeId} {v0 v1 v2 v3 v4 v5 : Value} (h : BlkT w b #[v0, v1, v2, v3, v4, v5] t) (x0 x1 x2 x3 x4 x5 : Value) : BlkT ((((((w.setCell ⟨b, 0, none⟩ x0).setCell ⟨b, 1, none⟩ x1).setCell ⟨b, 2, none⟩ x2).setCell ⟨b, 3, none⟩ x3).setCell ⟨b, 4, none⟩ x4).setCell ⟨b, 5, none⟩ x5) b #[x0, x1, x2, x3, x4, x5] t := by
  have h0 : BlkT _ b #[x0, v1, v2, v3, v4, v5] t := h.set 0 x0
  have h1 : BlkT _ b #[x0, x1, v2, v3, v4, v5] t := h0.set 1 x1
  have h2 : BlkT _ b #[x0, x1, x2, v3, v4, v5] t := h1.set 2 x2
  have h3 : BlkT _ b #[x0, x1, x2, x3, v4, v5] t := h2.set 3 x3
  have h4 : BlkT _ b #[x0, x1, x2, x3, x4, v5] t := h3.set 4 x4
  have h5 : BlkT _ b #[x0, x1, x2, x3, x4, x5] t := h4.set 5 x5
  exact h5
theorem six_chgT (S : Nat → Prop) (w : World) {b : Nat} (hb : S b) (x0 x1 x2 x3 x4 x5 : Value) : Chg S w ((((((w.setCell ⟨b, 0, none⟩ x0).setCell ⟨b, 1, none⟩ x1).setCell ⟨b, 2, none⟩ x2).setCell ⟨b, 3, none⟩ x3).setCell ⟨b, 4, none⟩ x4).setCell ⟨b, 5, none⟩ x5) :=
  ((((((Chg.refl S w).setCell (.inr hb) x0).setCell (.inr hb) x1).setCell (.inr hb) x2).setCell (.inr hb) x3).setCell (.inr hb) x4).setCell (.inr hb) x5
theorem twl_setT {w : World} {b : Nat} {t : TypeId} {v0 v1 v2 v3 v4 v5 v6 v7 v8 v9 v10 v11 : Value} (h : BlkT w b #[v0, v1, v2, v3, v4, v5, v6, v7, v8, v9, v10, v11] t) (x0 x1 x2 x3 x4 x5 x6 x7 x8 x9 x10 x11 : Value) : BlkT ((((((((((((w.setCell ⟨b, 0, none⟩ x0).setCell ⟨b, 1, none⟩ x1).setCell ⟨b, 2, none⟩ x2).setCell ⟨b, 3, none⟩ x3).setCell ⟨b, 4, none⟩ x4).setCell ⟨b, 5, none⟩ x5).setCell ⟨b, 6, none⟩ x6).setCell ⟨b, 7, none⟩ x7).setCell ⟨b, 8, none⟩ x8).setCell ⟨b, 9, none⟩ x9).setCell ⟨b, 10, none⟩ x10).setCell ⟨b, 11, none⟩ x11) b #[x0, x1, x2, x3, x4, x5, x6, x7, x8, x9, x10, x11] t := by
  have h0 : BlkT _ b #[x0, v1, v2, v3, v4, v5, v6, v7, v8, v9, v10, v11] t := h.set 0 x0
  have h1 : BlkT _ b #[x0, x1, v2, v3, v4, v5, v6, v7, v8, v9, v10, v11] t := h0.set 1 x1
  have h2 : BlkT _ b #[x0, x1, x2, v3, v4, v5, v6, v7, v8, v9, v10, v11] t := h1.set 2 x2
  have h3 : BlkT _ b #[x0, x1, x2, x3, v4, v5, v6, v7, v8, v9, v10, v11] t := h2.set 3 x3
  have h4 : BlkT _ b #[x0, x1, x2, x3, x4, v5, v6, v7, v8, v9, v10, v11] t := h3.set 4 x4
  have h5 : BlkT _ b #[x0, x1, x2, x3, x4, x5, v6, v7, v8, v9, v10, v11] t := h4.set 5 x5
  have h6 : BlkT _ b #[x0, x1, x2, x3, x4, x5, x6, v7, v8, v9, v10, v11] t := h5.set 6 x6
  have h7 : BlkT _ b #[x0, x1, x2, x3, x4, x5, x6, x7, v8, v9, v10, v11] t := h6.set 7 x7
  have h8 : BlkT _ b #[x0, x1, x2, x3, x4, x5, x6, x7, x8, v9, v10, v11] t := h7.set 8 x8
  have h9 : BlkT _ b #[x0, x1, x2, x3, x4, x5, x6, x7, x8, x9, v10, v11] t := h8.set 9 x9
  have h10 : BlkT _ b #[x0, x1, x2, x3, x4, x5, x6, x7, x8, x9, x10, v11] t := h9.set 10 x10
  have h11 : BlkT _ b #[x0, x1, x2, x3, x4, x5, x6, x7, x8, x9, x10, x11] t := h10.set 11 x11
  exact h11
/-- The leg's cells in what Exact hands back. -/
def legC7 : Value → Array Value
  | .tuple cs => match cs.getD 1 undef with
    | .agg l => l
    | _ => #[]
  | _ => #[]
def ExaV (start gin gout : Int) (bl : List Int) (x : Exa) (v : Value) (la : Option Addr) (lc : Nat) (sa : Option Addr) (sc : Nat) : Prop := v = .tuple #[.agg x.t.cells, .agg #[.int .i64 start, .int .i64 gin, .int .i64 gout, .slice la bl.length lc, .slice sa x.scores.length sc, .bool x.won], .int .i64 0, .int .i64 0]
def leg0C : Array Value := #[.int .i64 0, .int .i64 0, .int .i64 0, .slice none 0 0, .slice none 0 0, .bool false]
/-- What is known while a leg is told to Exact and put into two variables (operations: i1 an empty list, i3 the beds, i6 the visits, i7 the call, i13 i14 the variables, i15 i16 the stores). -/
structure G7 (s0 : Nat) (bl : List Int) (vs : List (List Int)) (start gin gout : Int) (x : Exa) (L : Nat → Bool) (u : Nat → Value) (W : World) : Prop where
  app : L 3 = true → L 7 = false → OwnD W s0 (u 3) bl
  vis : L 6 = true → L 7 = false → WaysAt W s0 (u 6) vs
  exa : L 7 = true → ∃ la lc sa sc, ExaV start gin gout bl x (u 7) la lc sa sc ∧ OwnD W s0 (.slice la bl.length lc) bl ∧ OwnI W s0 (.slice sa x.scores.length sc) x.scores
  b12 : L 13 = true → ∃ k, u 13 = .pointer (some ⟨k, 0, none⟩) ∧ s0 ≤ k ∧ BlkT W k (bif L 15 then x.t.cells else tot0.cells) 55
  b13 : L 14 = true → ∃ k, u 14 = .pointer (some ⟨k, 0, none⟩) ∧ s0 ≤ k ∧ BlkT W k (bif L 16 then legC7 (u 7) else leg0C) 28
theorem G7.congr {s0 : Nat} {bl : List Int} {vs : List (List Int)} {start gin gout : Int} {x : Exa} {L L' : Nat → Bool} {u u' : Nat → Value} {W : World} (h : G7 s0 bl vs start gin gout x L u W) (h3 : L' 3 = L 3) (h6 : L' 6 = L 6) (h7 : L' 7 = L 7) (h13 : L' 13 = L 13) (h14 : L' 14 = L 14) (h15 : L' 15 = L 15) (h16 : L' 16 = L 16) (u3 : u' 3 = u 3) (u6 : u' 6 = u 6) (u7 : u' 7 = u 7) (u13 : u' 13 = u 13) (u14 : u' 14 = u 14) : G7 s0 bl vs start gin gout x L' u' W :=
  ⟨by rw [h3, h7, u3]; exact h.app, by rw [h6, h7, u6]; exact h.vis, by rw [h7, u7]; exact h.exa, by rw [h13, h15, u13]; exact h.b12, by rw [h14, h16, u14, u7]; exact h.b13⟩
theorem G7.ext {s0 : Nat} {bl : List Int} {vs : List (List Int)} {start gin gout : Int} {x : Exa} {L : Nat → Bool} {u : Nat → Value} {W W' : World} (h : G7 s0 bl vs start gin gout x L u W) (hx : Ext W W') : G7 s0 bl vs start gin gout x L u W' :=
  ⟨fun e f => OwnD.ext (h.app e f) hx, fun e f => (h.vis e f).ext hx, fun e => let ⟨la, lc, sa, sc, h1, h2, h3⟩ := h.exa e; ⟨la, lc, sa, sc, h1, OwnD.ext h2 hx, own_chg h3 (hx.chg fun _ => False) fun _ _ => id⟩, fun e => let ⟨k, h1, h2, h3⟩ := h.b12 e; ⟨k, h1, h2, h3.ext hx⟩, fun e => let ⟨k, h1, h2, h3⟩ := h.b13 e; ⟨k, h1, h2, h3.ext hx⟩⟩
def R7 (bl : List Int) (vs : List (List Int)) (start gin gout : Int) (x : Exa) (k : Nat) (v : Value) : Prop := (k = 1 → ∃ b, v = .slice (some ⟨b, 0, none⟩) 0 0) ∧ (k = 3 → ∃ a c, v = .slice a bl.length c) ∧ (k = 6 → ∃ a c, v = .slice a vs.length c) ∧ (k = 7 → ∃ la lc sa sc, ExaV start gin gout bl x v la lc sa sc) ∧ (k = 13 → ∃ b, v = .pointer (some ⟨b, 0, none⟩)) ∧ (k = 14 → ∃ b, v = .pointer (some ⟨b, 0, none⟩))
def w7W (bl : List Int) (vs : List (List Int)) (start gin gout : Int) (x : Exa) (k : Nat) : Value := if k = 1 then .slice (some ⟨0, 0, none⟩) 0 0 else if k = 3 then .slice none bl.length 0 else if k = 6 then .slice none vs.length 0 else if k = 7 then .tuple #[.agg x.t.cells, .agg #[.int .i64 start, .int .i64 gin, .int .i64 gout, .slice none bl.length 0, .slice none x.scores.length 0, .bool x.won], .int .i64 0, .int .i64 0] else .pointer (some ⟨0, 0, none⟩)
theorem w7W_ok (bl : List Int) (vs : List (List Int)) (start gin gout : Int) (x : Exa) (k : Nat) : R7 bl vs start gin gout x k (w7W bl vs start gin gout x k) := by
  unfold R7 w7W
  refine ⟨?_, ?_, ?_, ?_, ?_, ?_⟩ <;> rintro rfl
  · exact ⟨0, rfl⟩
  · exact ⟨none, 0, rfl⟩
  · exact ⟨none, 0, rfl⟩
  · exact ⟨none, 0, none, 0, rfl⟩
  · exact ⟨0, rfl⟩
  · exact ⟨0, rfl⟩
end Go.Proofs.Ytmopadnkjlodnaa
