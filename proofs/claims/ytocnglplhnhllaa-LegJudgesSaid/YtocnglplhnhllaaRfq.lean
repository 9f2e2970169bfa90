/-
  The reference's Play: what it needs beside Step.
-/
import Derived.Test.YtocnglplhnhllaaStr
import Derived.Test.YtocnglplhnhllaaPla
namespace Go.Proofs.Ytocnglplhnhllaa
open Go.RowKit Go.BigFrame
theorem BoolsAt.chg {w w' : World} {S : Nat → Prop} {a : Option Addr} {xs : List Bool} (h : BoolsAt w a xs) (hx : Chg S w w') (hs : 0 < xs.length → ∀ ad, a = some ad → ¬ S ad.block) : BoolsAt w' a xs := fun i hi => by
  obtain ⟨b, o, e, hc⟩ := h i hi
  exact ⟨b, o, e, hx.cell hc (show ¬ S b from hs (by omega) ⟨b, o, none⟩ e)⟩
/-- What only writes blocks that a leg does not lie in leaves it. -/
theorem RefAt.chg {w w' : World} {S : Nat → Prop} {v : Value} {r : Rul} {g : Gm} {k : Nat} (h : RefAt w v r g k) (hx : Chg S w w') (hS : ∀ j, S j → Avd v j) : RefAt w' v r g k := by
  obtain ⟨la, da, ia, wa, ea, lc, dc, ic, wc, ec, E, ls, rfl, h2, h3⟩ := h
  have key : ∀ (i : Nat) (a : Option Addr) (n c : Nat), (legG g la da ia wa ea lc dc ic wc ec E ls)[i]? = some (.slice a n c) → ∀ ad, a = some ad → ¬ S ad.block := fun i a n c hi ad e hs => by
    subst e
    exact hS _ hs _ rfl i ad n c hi rfl
  exact ⟨la, da, ia, wa, ea, lc, dc, ic, wc, ec, E, ls, rfl, ⟨h2.left.chg hx (fun _ => key 0 _ _ _ rfl), h2.nleft, h2.darts.chg hx (fun _ => key 1 _ _ _ rfl), h2.ndarts, h2.inn.chg hx (fun _ => key 2 _ _ _ rfl), h2.ninn, h2.win.chg hx (fun _ => key 6 _ _ _ rfl), h2.ended.chg hx (fun _ => key 7 _ _ _ rfl), h2.nended⟩, h3⟩
theorem RefAt.shape {w : World} {v : Value} {r : Rul} {g : Gm} {k : Nat} (h : RefAt w v r g k) : ∃ cs, v = .agg cs ∧ cs.size = 17 ∧ cs.all (·.oneCell') = true := by
  obtain ⟨la, da, ia, wa, ea, lc, dc, ic, wc, ec, E, ls, rfl, _, _⟩ := h
  exact ⟨_, rfl, rfl, legG_one ..⟩
theorem RefAt.mono {w : World} {v : Value} {r : Rul} {g : Gm} {k m : Nat} (h : RefAt w v r g k) (hm : k ≤ m) : RefAt w v r g m := by
  obtain ⟨la, da, ia, wa, ea, lc, dc, ic, wc, ec, E, ls, h1, h2, h3⟩ := h
  exact ⟨la, da, ia, wa, ea, lc, dc, ic, wc, ec, E, ls, h1, h2, h3.mono hm⟩
/-- A leg in a variable of the loop: nothing of it lies in the variable, in the result, or beyond. -/
structure LegV (w : World) (b0 b : Nat) (cs : Array Value) (r : Rul) (g : Gm) (k : Nat) : Prop where
  blk : Blk w b cs
  size : cs.size = 17
  one : cs.all (·.oneCell') = true
  ref : RefAt w (.agg cs) r g k
  avd : ∀ j, (j = b0 ∨ j = b ∨ w.heap.size ≤ j) → Avd (.agg cs) j
/-- While the reference's Step is carried out in a loop. -/
structure PsG (b : Nat) (cs0 : Array Value) (r : Rul) (g' : Gm) (k : Nat) (er : Int) (L : Nat → Bool) (u : Nat → Value) (w : World) : Prop where
  val : L 6 = true → ∃ cs at', u 6 = .tuple #[.agg cs, .int .i64 at', .int .i64 er] ∧ RefAt w (.agg cs) r g' (k + 1) ∧ (∀ j, Avd (.agg cs0) j → (j < b ∨ w.heap.size ≤ j ∨ (L 11 = true ∧ u 11 = .pointer (some ⟨j, 0, none⟩))) → Avd (.agg cs) j)
  box : L 11 = true → ∃ j, u 11 = .pointer (some ⟨j, 0, none⟩) ∧ b ≤ j ∧ ∃ xs, Blk w j xs ∧ xs.size = 17 ∧ (L 12 = true → ∀ cs at', u 6 = .tuple #[.agg cs, .int .i64 at', .int .i64 er] → xs = cs)
structure PsR (cs0 : Array Value) (er at0 : Int) (k : Nat) (v : Value) : Prop where
  one : k = 1 → v = .agg cs0
  val : k = 6 → ∃ cs at', v = .tuple #[.agg cs, .int .i64 at', .int .i64 er] ∧ (er ≠ 0 → at' = at0) ∧ cs.size = 17 ∧ cs.all (·.oneCell') = true
  box : k = 11 → ∃ j, v = .pointer (some ⟨j, 0, none⟩)
theorem PsG.mono {b : Nat} {cs0 : Array Value} {r : Rul} {g' : Gm} {k : Nat} {er : Int} {L : Nat → Bool} {u : Nat → Value} {w w' : World} (h : PsG b cs0 r g' k er L u w) (hx : Ext w w') : PsG b cs0 r g' k er L u w' :=
  ⟨fun hl => let ⟨cs, a, h1, h2, h3⟩ := h.val hl; ⟨cs, a, h1, h2.ext hx, fun j hj hd => h3 j hj (hd.imp id fun hd => hd.imp (fun hd => Nat.le_trans hx.size hd) id)⟩, fun hl => let ⟨j, h1, h2, xs, h3, h4⟩ := h.box hl; ⟨j, h1, h2, xs, h3.ext hx, h4⟩⟩
theorem beginI (r : Rul) : RefI r (Gm.begin r) [] [0, 0, 0, 0, 0, 0, 0, 0] 0 :=
  ⟨rfl, fun _ x => by simp [Gm.begin], fun _ _ => rfl, fun x h => (by cases h), Nat.le_refl _, fun x h => by simp at h; omega⟩
theorem newE_bad {r : Rul} {n : Int} (h : r.ok = false) : newE r n = 2 := by unfold newE; rw [if_pos h]
theorem newE_long {r : Rul} {n : Nat} (h : r.ok = true) (hl : 2000 < n) : newE r n = 5 := by unfold newE; rw [if_neg (by simp [h]), if_pos (by omega)]
theorem zero_reads (W : World) : Reads3 W Gm.zero (.agg #[.slice none 0 0, .slice none 0 0, .slice none 0 0, .int .i64 0, .int .i64 0, .bool false, .slice none 0 0]) :=
  StAt.reads (base := 0) ⟨_, _, _, _, rfl, OwnI.nil _ _, OwnI.nil _ _, OwnB.nil _ _, OwnI.nil _ _⟩
def leg17 : Array Value := #[.slice none 0 0, .slice none 0 0, .slice none 0 0, .int .i64 0, .int .i64 0, .bool false, .slice none 0 0, .slice none 0 0, .int .i64 0, .int .i64 0, .int .i64 0, .int .i64 0, .int .i64 0, .int .i64 0, .int .i64 0, .int .i64 0, .int .i64 0]
theorem leg17_one : leg17.all (·.oneCell') = true := by simp [leg17, Value.oneCell']
theorem RefAt.reads {w : World} {b7 : Nat} {cs : Array Value} {r : Rul} {g : Gm} {k : Nat} (h : RefAt w (.agg cs) r g k) (hb : Blk w b7 cs) :
    ∃ a0 a1 a2 a3 c0 c1 c2 c3, ((w.cell? ⟨b7, 0, none⟩ = some (.slice a0 g.left.length c0) ∧ w.cell? ⟨b7, 1, none⟩ = some (.slice a1 g.darts.length c1) ∧ w.cell? ⟨b7, 2, none⟩ = some (.slice a2 g.inn.length c2) ∧ w.cell? ⟨b7, 3, none⟩ = some (.int .i64 g.next)) ∧ w.cell? ⟨b7, 4, none⟩ = some (.int .i64 g.round) ∧ w.cell? ⟨b7, 5, none⟩ = some (.bool g.over) ∧ w.cell? ⟨b7, 6, none⟩ = some (.slice a3 g.winners.length c3)) ∧
      (∀ w' b4, Avd (.agg cs) b4 → Chg (· = b4) w w' → RdSt w' g (.agg #[.slice a0 g.left.length c0, .slice a1 g.darts.length c1, .slice a2 g.inn.length c2, .int .i64 g.next, .int .i64 g.round, .bool g.over, .slice a3 g.winners.length c3]) a0 a1 a2 a3 c0 c1 c2 c3) := by
  obtain ⟨la, da, ia, wa, ea, lc, dc, ic, wc, ec, E, ls, e, h2, h3⟩ := h
  injection e with e
  subst e
  refine ⟨la, da, ia, wa, lc, dc, ic, wc, ⟨⟨hb.cell 0 rfl, hb.cell 1 rfl, hb.cell 2 rfl, hb.cell 3 rfl⟩, hb.cell 4 rfl, hb.cell 5 rfl, hb.cell 6 rfl⟩, fun w' b4 hav hC => ?_⟩
  have hr := RefAt.chg (S := (· = b4)) ⟨la, da, ia, wa, ea, lc, dc, ic, wc, ec, E, ls, rfl, h2, h3⟩ hC (fun j e => by subst e; exact hav)
  obtain ⟨_, _, _, _, _, _, _, _, _, _, _, _, e', k2, _⟩ := hr
  injection e' with e'
  have c0 := congrArg (·[0]?) e'
  have c1 := congrArg (·[1]?) e'
  have c2 := congrArg (·[2]?) e'
  have c6 := congrArg (·[6]?) e'
  injection c0 with c0; injection c0 with c0; subst c0
  injection c1 with c1; injection c1 with c1; subst c1
  injection c2 with c2; injection c2 with c2; subst c2
  injection c6 with c6; injection c6 with c6; subst c6
  exact ⟨rfl, k2.left, k2.darts, k2.inn, k2.win⟩
end Go.Proofs.Ytocnglplhnhllaa
