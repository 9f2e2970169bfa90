/-
  Returns of a function that has ranged over functions, any number of times. No program here.
-/
import Derived.Test.YtpifdeglhalefaaRci
import Derived.RangeFuncLeaves
namespace Go.Proofs.Ytpifdeglhalefaa
open Go.RowKit Go.BigFrame
theorem Blk.at {w : World} {cs : Array Value} {t : TypeId} (n : Nat) (hn : n = w.heap.size) : Blk (w.alloc (.cells cs t)) n cs := by subst hn; exact Blk.new _ _ _
theorem Lat.ext0 {w : World} (x : Lat NoX w) : Ext w x.world := Chg.to_ext (Ext.refl w) (Lat.chg x) (by rintro i ⟨o, h⟩; exact h.elim)
/-- A return, with no deferred calls. -/
theorem ret_m {F : Fence} {n : Nat} {P : Program} {fn : Func} {R : Ending → World → Prop} {a : Act} {w : World} {v : Value} (hd : a.defers = []) (h : (results fn a.tmps).run P w = .ok v w) (hR : R (.returned v) w) : bodyPostM F n P fn R .ret a w := by
  show LeavesInM F n P fn a.tmps R a.defers .returning w
  rw [hd]
  exact ⟨v, h, hR⟩
theorem cell_put {W : World} {a : Addr} {v : Value} (h : W.cell? a = some v) {D : Nat} {o : Obj} (hK : W.heap[D]? = some o) (ho : o.isCells = false) (o' : Obj) : (W.putObj D o').cell? a = some v :=
  cell_kept h (grownBy_putObj' W D o') (fun r e => by cases e; exact ⟨o, hK, ho⟩)
theorem chg_put {S : Nat → Prop} {w W : World} (h : Chg S w W) {D : Nat} (hD : w.heap.size ≤ D) (o : Obj) : Chg S w (W.putObj D o) :=
  let g := grownBy_putObj' W D o
  ⟨g.os.trans h.os, g.tape.trans h.tape, g.output.trans h.output, Nat.le_trans h.size g.size, fun k hk hs => (World.putObj_heap_other (by omega)).trans (h.block k hk hs)⟩
/-- Some marks of loops over functions, from lo on, have been taken up. -/
inductive Shut (lo : Nat) (A : World) : World → Prop
  | refl : Shut lo A A
  | put {B : World} {D : Nat} (h : Shut lo A B) (hD : lo ≤ D) (hK : B.heap[D]? = some (.deferred (some []))) : Shut lo A (B.putObj D (.deferred none))
theorem Shut.heap {lo : Nat} {A B : World} (h : Shut lo A B) {k : Nat} {o : Obj} (hk : A.heap[k]? = some o) (ho : o ≠ .deferred (some [])) : B.heap[k]? = some o := by
  induction h with
  | refl => exact hk
  | put h hD hK ih => exact (World.putObj_heap_other (by rintro rfl; rw [ih] at hK; cases hK; exact ho rfl)).trans ih
theorem Shut.cell {lo : Nat} {A B : World} (h : Shut lo A B) {a : Addr} {v : Value} (hc : A.cell? a = some v) : B.cell? a = some v := by
  induction h with
  | refl => exact hc
  | put h hD hK ih => exact cell_put ih hK rfl _
theorem Shut.map {κ ν : Type} {ek : κ → Value} {ev : ν → Value} {lo : Nat} {A B : World} (h : Shut lo A B) {b : Nat} {l : List (κ × ν)} (hm : MapL ek ev A b l) : MapL ek ev B b l := by
  obtain ⟨es, c, h1, -⟩ := hm.ex
  exact hm.same ((h.heap h1 (by intro e; cases e)).trans h1.symm)
theorem Shut.chg {S : Nat → Prop} {lo : Nat} {w A B : World} (h : Shut lo A B) (hc : Chg S w A) (hl : w.heap.size ≤ lo) : Chg S w B := by
  induction h with
  | refl => exact hc
  | put h hD hK ih => exact chg_put ih (Nat.le_trans hl hD) _
def markOf (D : Nat) : Deferred := { target := .collected D, args := #[] }
/-- What is known of the marks of a frame. -/
structure Marks (lo : Nat) (w : World) (ds : List Nat) : Prop where
  nodup : ds.Nodup
  all : ∀ D ∈ ds, lo ≤ D ∧ w.heap[D]? = some (.deferred (some []))
theorem ret_mN {F : Fence} {n : Nat} {P : Program} {fn : Func} {R : Ending → World → Prop} {lo : Nat} {a : Act} {w : World} {v : Value} : ∀ (ds : List Nat) (W : World), Shut lo w W → Marks lo W ds →
    (∀ W', Shut lo w W' → (results fn a.tmps).run P W' = .ok v W' ∧ R (.returned v) W') → LeavesInM F n P fn a.tmps R (ds.map markOf) .returning W
  | [], W, hs, _, h => ⟨v, (h W hs).1, (h W hs).2⟩
  | D :: ds, W, hs, hm, h => by
    obtain ⟨h1, h2⟩ := hm.all D (by simp)
    have hn := List.nodup_cons.1 hm.nodup
    refine ⟨by simp, .inl ⟨_, _, rfl, run_takeDeferred h2, ret_mN ds _ (hs.put h1 h2) ⟨hn.2, fun E hE => ⟨(hm.all E (by simp [hE])).1, ?_⟩⟩ h⟩⟩
    exact (World.putObj_heap_other (by rintro rfl; exact hn.1 hE)).trans (hm.all E (by simp [hE])).2
theorem Marks.chg {S : Nat → Prop} {lo : Nat} {A B : World} {ds : List Nat} (h : Marks lo A ds) (hx : Chg S A B) (hs : ∀ D ∈ ds, ¬ S D) : Marks lo B ds := ⟨h.nodup, fun D hD => ⟨(h.all D hD).1, hx.heap (h.all D hD).2 (hs D hD)⟩⟩
theorem Marks.cons {lo : Nat} {w : World} {ds : List Nat} {D : Nat} (h : Marks lo w ds) (hn : D ∉ ds) (hl : lo ≤ D) (hk : w.heap[D]? = some (.deferred (some []))) : Marks lo w (D :: ds) := ⟨List.nodup_cons.2 ⟨hn, h.nodup⟩, fun E hE => by rcases List.mem_cons.1 hE with rfl | hE; exact ⟨hl, hk⟩; exact h.all E hE⟩
theorem Marks.nil (lo : Nat) (w : World) : Marks lo w [] := ⟨List.nodup_nil, by simp⟩
/-- Nothing is known of what a call left. -/
inductive Nop (v : Value) (s : Nat) (w : World) : Prop
  | mk
theorem Nop.chg {v : Value} {s : Nat} {w w' : World} {S : Nat → Prop} (_ : Nop v s w) (_ : Chg S w w') (_ : ∀ k, S k → k < s) : Nop v s w' := .mk
/-- A block of a body; the rest of a body from a region on. -/
def codeBlk (n : Nat) : Code → Option Code
  | .block m c => if m = n then some (.block m c) else codeBlk n c
  | .seq a b => match codeBlk n a with
    | some c => some c
    | none => codeBlk n b
  | .cond _ a b => match codeBlk n a with
    | some c => some c
    | none => codeBlk n b
  | .loop c => codeBlk n c
  | _ => none
def codeFrom (n : Nat) : Code → Option Code
  | .block _ c => codeFrom n c
  | .seq (.region m l d) b => if m = n then some (.seq (.region m l d) b) else codeFrom n b
  | .seq a b => match codeFrom n a with
    | some c => some c
    | none => codeFrom n b
  | .cond _ a b => match codeFrom n a with
    | some c => some c
    | none => codeFrom n b
  | .loop c => codeFrom n c
  | _ => none
theorem one_set {w : World} {b : Nat} {v0 : Value} (h : Blk w b #[v0]) (x0 : Value) : Blk (w.setCell ⟨b, 0, none⟩ x0) b #[x0] := by
  have h0 : Blk _ b #[x0] := h.set 0 x0
  exact h0
theorem one_chg (S : Nat → Prop) (w : World) {b : Nat} (hb : S b) (x0 : Value) : Chg S w (w.setCell ⟨b, 0, none⟩ x0) := ((Chg.refl S w).setCell (.inr hb) x0)
theorem two_set {w : World} {b : Nat} {v0 v1 : Value} (h : Blk w b #[v0, v1]) (x0 x1 : Value) : Blk ((w.setCell ⟨b, 0, none⟩ x0).setCell ⟨b, 1, none⟩ x1) b #[x0, x1] := by
  have h0 : Blk _ b #[x0, v1] := h.set 0 x0
  have h1 : Blk _ b #[x0, x1] := h0.set 1 x1
  exact h1
theorem two_chg (S : Nat → Prop) (w : World) {b : Nat} (hb : S b) (x0 x1 : Value) : Chg S w ((w.setCell ⟨b, 0, none⟩ x0).setCell ⟨b, 1, none⟩ x1) := ((Chg.refl S w).setCell (.inr hb) x0).setCell (.inr hb) x1
theorem kf_chg {S : Nat → Prop} {w W : World} {base : Nat} (h : Chg S w W) (hs : ∀ k, S k → k < base) : KeepsFrom base w W := ⟨h.size, fun k o hB hk _ => h.heap hk (fun e => by have := hs k e; omega)⟩
theorem MapL.notCells {κ ν : Type} {ek : κ → Value} {ev : ν → Value} {w : World} {b : Nat} {l : List (κ × ν)} (h : MapL ek ev w b l) {cs : Array Value} {t : TypeId} {f : Nat × Nat} (e : w.heap[b]? = some (.cells cs t f)) : False := by
  obtain ⟨es, c, h1, -⟩ := h.ex
  rw [h1] at e
  cases e
end Go.Proofs.Ytpifdeglhalefaa
