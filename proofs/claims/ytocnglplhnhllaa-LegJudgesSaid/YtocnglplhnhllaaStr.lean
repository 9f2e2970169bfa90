/-
  The reference's Step: what it needs of memory.
-/
import Derived.Test.YtocnglplhnhllaaStp
import Derived.Test.YtocnglplhnhllaaKep
namespace Go.Proofs.Ytocnglplhnhllaa
open Go.RowKit Go.BigFrame
attribute [local go_sem] Later.cell Later.frozen Lat.cell Lat.frozen
/-- The reference's leg, with the last darts as a list. -/
def legL (lv dv iv : Value) (next round : Int) (ov : Bool) (wv ev : Value) (ls : List Int) (done : Int) : Array Value := legC lv dv iv next round ov wv ev (ls.getD 0 0) (ls.getD 1 0) (ls.getD 2 0) (ls.getD 3 0) (ls.getD 4 0) (ls.getD 5 0) (ls.getD 6 0) (ls.getD 7 0) done
theorem legL_size (lv dv iv : Value) (next round : Int) (ov : Bool) (wv ev : Value) (ls : List Int) (done : Int) : (legL lv dv iv next round ov wv ev ls done).size = 17 := rfl
theorem legL_last (lv dv iv : Value) (next round : Int) (ov : Bool) (wv ev : Value) (ls : List Int) (done : Int) {p : Nat} (hp : p < 8) : (legL lv dv iv next round ov wv ev ls done)[8 + p]? = some (.int .i64 (ls.getD p 0)) := by
  match p, hp with
  | 0, _ => rfl
  | 1, _ => rfl
  | 2, _ => rfl
  | 3, _ => rfl
  | 4, _ => rfl
  | 5, _ => rfl
  | 6, _ => rfl
  | 7, _ => rfl
theorem legL_set (lv dv iv : Value) (next round : Int) (ov : Bool) (wv ev : Value) (ls : List Int) (done : Int) (hl : ls.length = 8) {p : Nat} (hp : p < 8) (x : Int) : (legL lv dv iv next round ov wv ev ls done).setIfInBounds (8 + p) (.int .i64 x) = legL lv dv iv next round ov wv ev (ls.set p x) done := by
  match ls, hl with
  | [l0, l1, l2, l3, l4, l5, l6, l7], _ =>
    match p, hp with
    | 0, _ => rfl
    | 1, _ => rfl
    | 2, _ => rfl
    | 3, _ => rfl
    | 4, _ => rfl
    | 5, _ => rfl
    | 6, _ => rfl
    | 7, _ => rfl
/-- What a leg's slices read as. -/
structure RefC (w : World) (g : Gm) (la da ia wa ea : Option Addr) (lc dc ic wc ec : Nat) (E : List Int) : Prop where
  left : CellsAt w .i64 la g.left
  nleft : la = none → g.left.length = 0 ∧ lc = 0
  darts : CellsAt w .i64 da g.darts
  ndarts : da = none → g.darts.length = 0 ∧ dc = 0
  inn : BoolsAt w ia g.inn
  ninn : ia = none → g.inn.length = 0 ∧ ic = 0
  win : CellsAt w .i64 wa g.winners
  ended : CellsAt w .i64 ea E
  nended : ea = none → E.length = 0 ∧ ec = 0
theorem RefC.ext {w w' : World} {g : Gm} {la da ia wa ea : Option Addr} {lc dc ic wc ec : Nat} {E : List Int} (h : RefC w g la da ia wa ea lc dc ic wc ec E) (hx : Ext w w') : RefC w' g la da ia wa ea lc dc ic wc ec E :=
  ⟨h.left.ext hx, h.nleft, h.darts.ext hx, h.ndarts, h.inn.ext hx, h.ninn, h.win.ext hx, h.ended.ext hx, h.nended⟩
def legG (g : Gm) (la da ia wa ea : Option Addr) (lc dc ic wc ec : Nat) (E ls : List Int) : Array Value :=
  legL (.slice la g.left.length lc) (.slice da g.darts.length dc) (.slice ia g.inn.length ic) g.next g.round g.over (.slice wa g.winners.length wc) (.slice ea E.length ec) ls g.done
/-- The reference's leg stands for a leg. -/
def RefAt (w : World) (v : Value) (r : Rul) (g : Gm) (k : Nat) : Prop :=
  ∃ la da ia wa ea lc dc ic wc ec E ls, v = .agg (legG g la da ia wa ea lc dc ic wc ec E ls) ∧ RefC w g la da ia wa ea lc dc ic wc ec E ∧ RefI r g E ls k
theorem RefAt.ext {w w' : World} {v : Value} {r : Rul} {g : Gm} {k : Nat} (h : RefAt w v r g k) (hx : Ext w w') : RefAt w' v r g k := by
  obtain ⟨la, da, ia, wa, ea, lc, dc, ic, wc, ec, E, ls, h1, h2, h3⟩ := h
  exact ⟨la, da, ia, wa, ea, lc, dc, ic, wc, ec, E, ls, h1, h2.ext hx, h3⟩
theorem RefI.mono {r : Rul} {g : Gm} {E ls : List Int} {k m : Nat} (h : RefI r g E ls k) (hm : k ≤ m) : RefI r g E ls m := ⟨h.len, h.ended, h.solo, h.mem, Nat.le_trans h.short hm, h.lasts⟩
/-- None of a leg's lists lies in a block. -/
def Avd (v : Value) (b : Nat) : Prop := ∀ cs : Array Value, v = .agg cs → ∀ (i : Nat) (a : Addr) (n c : Nat), cs[i]? = some (.slice (some a) n c) → a.block ≠ b
theorem Avd.mk {a1 a2 a3 a4 a5 : Option Addr} {n1 n2 n3 n4 n5 c1 c2 c3 c4 c5 : Nat} {next round : Int} {ov : Bool} {ls : List Int} {done : Int} {b : Nat} (h1 : ∀ a, a1 = some a → a.block ≠ b) (h2 : ∀ a, a2 = some a → a.block ≠ b) (h3 : ∀ a, a3 = some a → a.block ≠ b) (h4 : ∀ a, a4 = some a → a.block ≠ b) (h5 : ∀ a, a5 = some a → a.block ≠ b) :
    Avd (.agg (legL (.slice a1 n1 c1) (.slice a2 n2 c2) (.slice a3 n3 c3) next round ov (.slice a4 n4 c4) (.slice a5 n5 c5) ls done)) b := by
  intro cs e i a n c h
  injection e with e
  subst e
  match i, h with
  | 0, h => injection h with h; injection h with h; exact h1 _ h
  | 1, h => injection h with h; injection h with h; exact h2 _ h
  | 2, h => injection h with h; injection h with h; exact h3 _ h
  | 3, h => cases h
  | 4, h => cases h
  | 5, h => cases h
  | 6, h => injection h with h; injection h with h; exact h4 _ h
  | 7, h => injection h with h; injection h with h; exact h5 _ h
  | 8, h => cases h
  | 9, h => cases h
  | 10, h => cases h
  | 11, h => cases h
  | 12, h => cases h
  | 13, h => cases h
  | 14, h => cases h
  | 15, h => cases h
  | 16, h => cases h
  | i + 17, h => cases h
theorem Avd.of {g : Gm} {la da ia wa ea : Option Addr} {lc dc ic wc ec : Nat} {E ls : List Int} {b : Nat} (h : Avd (.agg (legG g la da ia wa ea lc dc ic wc ec E ls)) b) : (∀ a, wa = some a → a.block ≠ b) ∧ (∀ a, ea = some a → a.block ≠ b) :=
  ⟨fun a e => h _ rfl 6 a _ _ (by subst e; rfl), fun a e => h _ rfl 7 a _ _ (by subst e; rfl)⟩
/-- What Step returns. -/
def StpP (w0 : World) (r : Rul) (k : Nat) (gv : Value) (S : Gm × Int × Int) (e : Ending) (w' : World) : Prop :=
  ∃ v at', e = .returned (.tuple #[v, .int .i64 at', .int .i64 S.2.2]) ∧ (S.2.2 ≠ 0 → at' = S.2.1) ∧ RefAt w' v r S.1 (k + 1) ∧ Ext w0 w' ∧ (∀ b, Avd gv b → (b < w0.heap.size ∨ w'.heap.size ≤ b) → Avd v b)
/-- Midway in Step: all but who has ended is written. -/
structure MidS (w : World) (r : Rul) (n : Nat) (ca : Option Addr) (cc i : Nat) (beds : List Int) (ba : Option Addr) (bc k10 N : Nat) (ea0 : Option Addr) (lv dv iv wv : Value) (nx rnd dn : Int) (left darts : List Int) (inn : List Bool) (xl xs xd : Int) (xi xb xw : Bool) (E ls : List Int) (wx : World) : Prop where
  rul : Blk wx w.heap.size #[.slice ca n cc, .int .i64 r.first, .int .i64 r.rounds, .bool r.equal]
  leg : ∃ ea ec, Blk wx (w.heap.size + 1) (legL lv dv iv nx rnd false wv (.slice ea E.length ec) ls dn) ∧ CellsAt wx .i64 ea E ∧ (ea = none → E.length = 0 ∧ ec = 0) ∧ (0 < E.length → ∀ ad, ea = some ad → ad.block ≠ w.heap.size + 1 ∧ ad.block ≠ w.heap.size + 1 + 1 + 1) ∧ (∀ ad, ea = some ad → ea0 = some ad ∨ (w.heap.size ≤ ad.block ∧ ad.block < wx.heap.size))
  vis : Blk wx (w.heap.size + 1 + 1) #[.int .i64 i, .slice ba beds.length bc]
  out : Blk wx (w.heap.size + 1 + 1 + 1) legZ
  thr : Blk wx k10 #[.int .i64 xl, .int .i64 xs, .int .i64 xd, .bool xi, .bool xb, .bool xw]
  left : OwnI wx N lv left
  darts : OwnI wx N dv darts
  inn : OwnB wx N iv inn
  ext : Ext w wx
theorem MidS.later {w : World} {r : Rul} {n : Nat} {ca : Option Addr} {cc i : Nat} {beds : List Int} {ba : Option Addr} {bc k10 N : Nat} {ea0 : Option Addr} {lv dv iv wv : Value} {nx rnd dn : Int} {left darts : List Int} {inn : List Bool} {xl xs xd : Int} {xi xb xw : Bool} {E ls : List Int} {wx wy : World}
    (h : MidS w r n ca cc i beds ba bc k10 N ea0 lv dv iv wv nx rnd dn left darts inn xl xs xd xi xb xw E ls wx) (hx : Ext wx wy) : MidS w r n ca cc i beds ba bc k10 N ea0 lv dv iv wv nx rnd dn left darts inn xl xs xd xi xb xw E ls wy :=
  ⟨h.rul.ext hx, let ⟨ea, ec, h1, h2, h3, h4, h5⟩ := h.leg; ⟨ea, ec, h1.ext hx, h2.ext hx, h3, h4, fun ad e => (h5 ad e).imp id fun h => ⟨h.1, Nat.lt_of_lt_of_le h.2 hx.size⟩⟩, h.vis.ext hx, h.out.ext hx, h.thr.ext hx, h.left.ext hx, h.darts.ext hx, h.inn.ext hx, h.ext.trans hx⟩
theorem RefAt.mk2 {w : World} {r : Rul} {g : Gm} {k n : Nat} {la da ia wa ea : Option Addr} {lc dc ic wc ec : Nat} {E ls : List Int} (hl : g.left.length = n) (hd : g.darts.length = n) (hi : g.inn.length = n) (hn : 0 < n)
    (hL : CellsAt w .i64 la g.left) (hD : CellsAt w .i64 da g.darts) (hI : BoolsAt w ia g.inn) (hW : CellsAt w .i64 wa g.winners) (hE : CellsAt w .i64 ea E) (hne : ea = none → E.length = 0 ∧ ec = 0) (hR : RefI r g E ls k) :
    RefAt w (.agg (legL (.slice la n lc) (.slice da n dc) (.slice ia n ic) g.next g.round g.over (.slice wa g.winners.length wc) (.slice ea E.length ec) ls g.done)) r g k := by
  refine ⟨la, da, ia, wa, ea, lc, dc, ic, wc, ec, E, ls, by unfold legG; rw [hl, hd, hi], ⟨hL, fun h => ?_, hD, fun h => ?_, hI, fun h => ?_, hW, hE, hne⟩, hR⟩
  · obtain ⟨_, _, e, _⟩ := hL 0 (by omega); rw [h] at e; cases e
  · obtain ⟨_, _, e, _⟩ := hD 0 (by omega); rw [h] at e; cases e
  · obtain ⟨_, _, e, _⟩ := hI 0 (by omega); rw [h] at e; cases e
theorem legL_one (a1 a2 a3 a4 a5 : Option Addr) (n1 n2 n3 n4 n5 c1 c2 c3 c4 c5 : Nat) (next round : Int) (ov : Bool) (ls : List Int) (done : Int) : (legL (.slice a1 n1 c1) (.slice a2 n2 c2) (.slice a3 n3 c3) next round ov (.slice a4 n4 c4) (.slice a5 n5 c5) ls done).all (·.oneCell') = true := by
  simp [legL, legC, Value.oneCell']
theorem legG_one (g : Gm) (la da ia wa ea : Option Addr) (lc dc ic wc ec : Nat) (E ls : List Int) : (legG g la da ia wa ea lc dc ic wc ec E ls).all (·.oneCell') = true := legL_one ..
theorem stp_fin {w0 W : World} {r : Rul} {k n : Nat} {g1 : Gm} {gv : Value} {S : Gm × Int × Int} {N : Nat} {lv dv iv wv : Value} {ea : Option Addr} {ec : Nat} {E ls : List Int} {nx rd dn : Int} {ov : Bool} (hS : S = (g1, -1, 0)) (hx : Ext w0 W) (hn : 0 < n)
    (l1 : g1.left.length = n) (l2 : g1.darts.length = n) (l3 : g1.inn.length = n) (hL : OwnI W N lv g1.left) (hD : OwnI W N dv g1.darts) (hI : OwnB W N iv g1.inn) (hN : w0.heap.size ≤ N) (hW : ∃ a c, wv = .slice a g1.winners.length c ∧ CellsAt W .i64 a g1.winners)
    (hE : CellsAt W .i64 ea E) (hne : ea = none → E.length = 0 ∧ ec = 0) (hR : RefI r g1 E ls (k + 1)) (e1 : g1.next = nx) (e2 : g1.round = rd) (e3 : g1.over = ov) (e4 : g1.done = dn)
    (hwa : ∀ b, Avd gv b → (b < w0.heap.size ∨ W.heap.size ≤ b) → ∀ a n c, wv = .slice (some a) n c → a.block ≠ b) (hea : ∀ b, Avd gv b → (b < w0.heap.size ∨ W.heap.size ≤ b) → ∀ a, ea = some a → a.block ≠ b) :
    StpP w0 r k gv S (.returned (.tuple #[.agg (legL lv dv iv nx rd ov wv (.slice ea E.length ec) ls dn), .int .i64 0, .int .i64 0])) W := by
  have o1 := own_lt hL
  have o2 := own_lt hD
  have o3 := own_lt hI
  obtain ⟨la, lc, rfl, hl⟩ := hL.cells
  obtain ⟨da, dc, rfl, hd⟩ := hD.cells
  obtain ⟨ia, ic, rfl, hi⟩ := hI.cells
  obtain ⟨wa, wc, rfl, hw⟩ := hW
  subst hS e1 e2 e3 e4
  refine ⟨_, _, rfl, fun h => absurd rfl h, ?_, hx, fun b hb hbb => Avd.mk (fun a e => ?_) (fun a e => ?_) (fun a e => ?_) (fun a e => hwa b hb hbb a _ _ (by rw [e])) (hea b hb hbb)⟩
  · rw [l1, l2, l3]
    exact RefAt.mk2 l1 l2 l3 hn hl hd hi hw hE hne hR
  · subst e; have := o1 a.block rfl; omega
  · subst e; have := o2 a.block rfl; omega
  · subst e; have := o3 a.block rfl; omega
theorem step_refused {r : Rul} {g : Gm} {p : Int} {beds : List Int} (h : chkS r.counts.length g.next g.over p ≠ 0) : g.step r p beds = (g, -1, chkS r.counts.length g.next g.over p) := by
  unfold Gm.step
  rw [if_pos h]
end Go.Proofs.Ytocnglplhnhllaa
