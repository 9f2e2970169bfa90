/-
  General words on worlds and slices: 'Ext' (what was there is as it was), 'IntS' (a slice value that reads as integers). No program here.
-/
import Derived.WalkKit
import Derived.WalkSpells
import Derived.WalkLawsBesides
import Derived.Lib.Hide
import Derived.RangeFuncCalls
import Derived.Deep.QuietTactic
import Derived.BigQuiet
import Derived.KernelRfl
namespace Go.Proofs.Ytpifdeglhalefaa
open Go.RowKit

/-- Whatever was there is as it was; there may be new blocks, and draws. -/
def Ext (w w' : World) : Prop := Below w.heap.size w w'
theorem Ext.refl (w : World) : Ext w w := Below.refl _ _
theorem Ext.size {w w' : World} (h : Ext w w') : w.heap.size ≤ w'.heap.size := Below.size h
theorem Ext.trans {a b c : World} (h : Ext a b) (k : Ext b c) : Ext a c := Below.trans h (Below.mono k h.size)
theorem Ext.alloc {a w : World} (h : Ext a w) (o : Obj) : Ext a (w.alloc o) := Below.alloc h h.size o
theorem Ext.drew {a w : World} (h : Ext a w) : Ext a w.drew := Below.drew h
theorem Ext.setCell {a w : World} (h : Ext a w) {p : Addr} (hp : a.heap.size ≤ p.block) (u : Value) : Ext a (w.setCell p u) := Below.setCell h hp u
theorem Ext.of_below {n : Nat} {a w : World} (h : Below n a w) (hn : a.heap.size ≤ n) : Ext a w := Below.mono h hn
theorem Ext.below {a w : World} (h : Ext a w) : Below a.heap.size a w := h
theorem lt_of_cell {w : World} {a : Addr} {v : Value} (h : w.cell? a = some v) : a.block < w.heap.size := by
  unfold World.cell? at h
  cases hb : w.heap[a.block]? with
  | none => simp [hb] at h
  | some o => exact (Array.getElem?_eq_some_iff.1 hb).1
theorem Ext.cell {w w' : World} (h : Ext w w') {a : Addr} {v : Value} (hc : w.cell? a = some v) : w'.cell? a = some v := by
  rw [Below.cell h (lt_of_cell hc)]; exact hc
theorem Ext.frozen {w w' : World} (h : Ext w w') {a : Addr} {v : Value} (hc : w.cell? a = some v) {b : Bool} (hf : w.frozen? a = b) : w'.frozen? a = b := by
  rw [Below.frozen h (lt_of_cell hc)]; exact hf
theorem Ext.heap {w w' : World} (h : Ext w w') {k : Nat} {o : Obj} (ho : w.heap[k]? = some o) : w'.heap[k]? = some o := by
  rw [Below.block h k (Array.getElem?_eq_some_iff.1 ho).1]; exact ho
/-- The two facts by which a walk reads old cells in a later world. -/
theorem Ext.reads {w w' : World} (h : Ext w w') : (∀ b o, b < w.heap.size → w'.cell? ⟨b, o, none⟩ = w.cell? ⟨b, o, none⟩) ∧ (∀ b o, b < w.heap.size → w'.frozen? ⟨b, o, none⟩ = w.frozen? ⟨b, o, none⟩) :=
  ⟨fun b o hb => Below.cell (p := ⟨b, o, none⟩) h hb, fun b o hb => Below.frozen (p := ⟨b, o, none⟩) h hb⟩

/-- Of what was there only blocks of S may have turned. -/
structure Chg (S : Nat → Prop) (w w' : World) : Prop where
  os : w'.os = w.os
  tape : w'.tape = w.tape
  output : w'.output = w.output
  size : w.heap.size ≤ w'.heap.size
  block : ∀ k, k < w.heap.size → ¬ S k → w'.heap[k]? = w.heap[k]?
theorem Ext.chg {w w' : World} (h : Ext w w') (S : Nat → Prop) : Chg S w w' := ⟨Below.os h, Below.tape h, Below.output h, Below.size h, fun k hk _ => Below.block h k hk⟩
theorem Chg.refl (S : Nat → Prop) (w : World) : Chg S w w := (Ext.refl w).chg S
theorem Chg.trans {S : Nat → Prop} {a b c : World} (h : Chg S a b) (k : Chg S b c) : Chg S a c :=
  ⟨k.os.trans h.os, k.tape.trans h.tape, k.output.trans h.output, Nat.le_trans h.size k.size, fun i hi hs => (k.block i (Nat.lt_of_lt_of_le hi h.size) hs).trans (h.block i hi hs)⟩
theorem Chg.mono {S T : Nat → Prop} {a b : World} (h : Chg S a b) (hst : ∀ k, k < a.heap.size → S k → T k) : Chg T a b := ⟨h.os, h.tape, h.output, h.size, fun k hk ht => h.block k hk fun hs => ht (hst k hk hs)⟩
theorem Chg.alloc {S : Nat → Prop} {a w : World} (h : Chg S a w) (o : Obj) : Chg S a (w.alloc o) := h.trans (((Ext.refl w).alloc o).chg S)
theorem Chg.drew {S : Nat → Prop} {a w : World} (h : Chg S a w) : Chg S a w.drew := h.trans ((Ext.refl w).drew.chg S)
theorem Chg.ext' {S : Nat → Prop} {a b c : World} (h : Chg S a b) (k : Ext b c) : Chg S a c := h.trans (k.chg S)
theorem Chg.setCell {S : Nat → Prop} {a w : World} (h : Chg S a w) {p : Addr} (hp : a.heap.size ≤ p.block ∨ S p.block) (u : Value) : Chg S a (w.setCell p u) :=
  ⟨h.os, h.tape, h.output, Nat.le_trans h.size (by simp [World.setCell]), fun k hk hs => by
    rw [Below.heap_setCell w p u k (by rintro rfl; rcases hp with hp | hp; omega; exact hs hp)]; exact h.block k hk hs⟩
/-- What has turned lies beyond what was there. -/
theorem Chg.to_ext {S : Nat → Prop} {a b c : World} (h : Ext a b) (k : Chg S b c) (hS : ∀ i, S i → a.heap.size ≤ i) : Ext a c :=
  ⟨k.os.trans (Below.os h), k.tape.trans (Below.tape h), k.output.trans (Below.output h), Nat.le_trans (Below.size h) k.size, fun i hi =>
    (k.block i (Nat.lt_of_lt_of_le hi (Below.size h)) (fun hs => by have := hS i hs; omega)).trans (Below.block h i hi)⟩
theorem Chg.cell {S : Nat → Prop} {w w' : World} (h : Chg S w w') {a : Addr} {v : Value} (hc : w.cell? a = some v) (hs : ¬ S a.block) : w'.cell? a = some v := by
  rw [World.cell?_of_block (w := w) (h.block a.block (lt_of_cell hc) hs)]; exact hc
theorem Chg.heap {S : Nat → Prop} {w w' : World} (h : Chg S w w') {k : Nat} {o : Obj} (ho : w.heap[k]? = some o) (hs : ¬ S k) : w'.heap[k]? = some o := by
  rw [h.block k (Array.getElem?_eq_some_iff.1 ho).1 hs]; exact ho

/-- A block of cells, known whole; it may be written. -/
def Blk (w : World) (b : Nat) (cs : Array Value) : Prop := ∃ t, w.heap[b]? = some (.cells cs t (0, 0))
theorem Blk.lt {w : World} {b : Nat} {cs : Array Value} (h : Blk w b cs) : b < w.heap.size := let ⟨_, h⟩ := h; (Array.getElem?_eq_some_iff.1 h).1
theorem Blk.cell {w : World} {b : Nat} {cs : Array Value} (h : Blk w b cs) (j : Nat) {v : Value} (hj : cs[j]? = some v) : w.cell? ⟨b, j, none⟩ = some v := by
  obtain ⟨t, h⟩ := h; simp [World.cell?, h, hj]
theorem Blk.frozen {w : World} {b : Nat} {cs : Array Value} (h : Blk w b cs) (j : Nat) : w.frozen? ⟨b, j, none⟩ = false := by
  obtain ⟨t, h⟩ := h; simp [World.frozen?, h]
theorem Blk.set {w : World} {b : Nat} {cs : Array Value} (h : Blk w b cs) (j : Nat) (v : Value) : Blk (w.setCell ⟨b, j, none⟩ v) b (cs.setIfInBounds j v) := by
  obtain ⟨t, h⟩ := h
  refine ⟨t, ?_⟩
  obtain ⟨hlt, he⟩ := Array.getElem?_eq_some_iff.1 h
  simp only [World.setCell]
  rw [Array.getElem?_eq_getElem (by rw [Array.size_modify]; exact hlt), Array.getElem_modify_self, he]
  rfl
theorem Blk.other {w : World} {b : Nat} {cs : Array Value} (h : Blk w b cs) {a : Addr} (hne : b ≠ a.block) (v : Value) : Blk (w.setCell a v) b cs := by
  obtain ⟨t, h⟩ := h; exact ⟨t, by rw [Below.heap_setCell _ _ _ _ hne]; exact h⟩
theorem Blk.chg {S : Nat → Prop} {w w' : World} {b : Nat} {cs : Array Value} (h : Blk w b cs) (hx : Chg S w w') (hs : ¬ S b) : Blk w' b cs := let ⟨t, h⟩ := h; ⟨t, hx.heap h hs⟩
theorem Blk.ext {w w' : World} {b : Nat} {cs : Array Value} (h : Blk w b cs) (hx : Ext w w') : Blk w' b cs := let ⟨t, h⟩ := h; ⟨t, hx.heap h⟩
theorem Blk.alloc {w : World} {b : Nat} {cs : Array Value} (h : Blk w b cs) (o : Obj) : Blk (w.alloc o) b cs := h.ext ((Ext.refl w).alloc o)
theorem Blk.drew {w : World} {b : Nat} {cs : Array Value} (h : Blk w b cs) : Blk w.drew b cs := h.ext (Ext.refl w).drew
theorem Blk.new (w : World) (cs : Array Value) (t : TypeId) : Blk (w.alloc (.cells cs t)) w.heap.size cs := ⟨t, by show (w.heap.push _)[w.heap.size]? = _; simp⟩

/-- A later world: for regions that draw their order ('wp_region_later'): each operation reads what was there, or calls what only makes memory. -/
structure Later (w : World) where
  world : World
  ext : Ext w world
instance (w : World) : Nonempty (Later w) := ⟨⟨w, Ext.refl w⟩⟩
theorem Later.cell {w : World} (x : Later w) {b o : Nat} (hb : b < w.heap.size) : x.world.cell? ⟨b, o, none⟩ = w.cell? ⟨b, o, none⟩ := Below.cell (p := ⟨b, o, none⟩) x.ext hb
theorem Later.frozen {w : World} (x : Later w) {b o : Nat} (hb : b < w.heap.size) : x.world.frozen? ⟨b, o, none⟩ = w.frozen? ⟨b, o, none⟩ := Below.frozen (p := ⟨b, o, none⟩) x.ext hb
theorem wp_region_later {P : Program} {id : Nat} {Q : Exit → Act → World → Prop} {a : Act} {w : World} {l : List Oper} (hm : P.follows .mixedOrders = true) (hB : Region.lexB .any l.toArray = true)
    (h : wpQuiet P l.toArray (fun w' => ∃ x : Later w, w' = x.world) (fun a' => ∀ w', (∃ x : Later w, w' = x.world) → Q .normal a' w') l a) : (Code.region id l.toArray true).wp P Q a w :=
  wp_region_quiet (C := fun w' => ∃ x : Later w, w' = x.world) hm hB ⟨⟨w.drew, (Ext.refl w).drew⟩, rfl⟩ (by simpa using h)
theorem Calls.later {P : Program} {w : World} {x : Later w} {f : FuncId} {args : Array Value} {v : Value} (h : Calls P f args x.world fun e w' => e = .returned v ∧ Ext x.world w') :
    Calls P f args x.world fun e w'' => e = .returned v ∧ ∃ y : Later w, w'' = y.world :=
  h.mono fun _ w' ⟨he, hx⟩ => ⟨he, ⟨w', x.ext.trans hx⟩, rfl⟩

/-- An integer that Go's int holds. -/
def I64 (x : Int) : Prop := -9223372036854775808 ≤ x ∧ x ≤ 9223372036854775807

theorem wrap_i64_in {x : Int} (h : I64 x) : IntKind.i64.wrap x = x := IntWalk.i64_in _ h
theorem wrap64_in' {x : Int} (h : I64 x) : wrap64 x = x := IntWalk.wrap64_in _ h

/-- The cells at an address read as integers (of kind k). -/
def CellsAt (w : World) (k : IntKind) (a : Option Addr) (xs : List Int) : Prop :=
  ∀ i, (h : i < xs.length) → ∃ b o, a = some ⟨b, o, none⟩ ∧ w.cell? ⟨b, o + i, none⟩ = some (.int k xs[i])
theorem CellsAt.ext {w w' : World} {k : IntKind} {a : Option Addr} {xs : List Int} (h : CellsAt w k a xs) (he : Ext w w') : CellsAt w' k a xs := fun i hi => by
  obtain ⟨b, o, e, hc⟩ := h i hi
  exact ⟨b, o, e, he.cell hc⟩
theorem CellsAt.nil (w : World) (k : IntKind) (a : Option Addr) : CellsAt w k a [] := fun i hi => absurd hi (by simp)

theorem ret_int {k : IntKind} {a b : Int} (h : a = b) : Ending.returned (.int k a) = .returned (.int k b) := by rw [h]
theorem ret_bool {a b : Bool} (h : a = b) : Ending.returned (.bool a) = .returned (.bool b) := by rw [h]

/-- The place of the first element with a property, -1 if there is none. -/
def idx {α : Type} (p : α → Bool) : List α → Int
  | [] => -1
  | x :: l => if p x then 0 else (if idx p l < 0 then -1 else idx p l + 1)
theorem idx_bounds {α : Type} (p : α → Bool) (l : List α) : -1 ≤ idx p l ∧ idx p l < l.length := by
  induction l with
  | nil => simp [idx]
  | cons x l ih => simp only [idx, List.length_cons]; split <;> (try split) <;> omega
theorem idx_hit {α : Type} (p : α → Bool) (l : List α) (k : Nat) (h : k < l.length) (hp : p l[k] = true) (hn : ∀ j, (hj : j < l.length) → j < k → p l[j] = false) : idx p l = k := by
  induction l generalizing k with
  | nil => simp at h
  | cons x l ih =>
    cases k with
    | zero => simp only [List.getElem_cons_zero] at hp; simp [idx, hp]
    | succ k =>
      have h0 : p x = false := hn 0 (by simp) (by omega)
      have := ih k (by simpa using h) (by simpa using hp) (fun j hj hjk => hn (j + 1) (by simpa using hj) (by omega))
      simp only [idx, h0, this]
      rw [if_neg (by simp), if_neg (by omega)]; omega
theorem idx_none {α : Type} (p : α → Bool) (l : List α) (hn : ∀ j, (hj : j < l.length) → p l[j] = false) : idx p l = -1 := by
  induction l with
  | nil => rfl
  | cons x l ih =>
    have h0 : p x = false := hn 0 (by simp)
    have := ih (fun j hj => hn (j + 1) (by simpa using hj))
    simp [idx, h0, this]
theorem idx_any_iff {α : Type} (p : α → Bool) (l : List α) : 0 ≤ idx p l ↔ l.any p = true := by
  induction l with
  | nil => simp [idx]
  | cons x l ih =>
    have hb := idx_bounds p l
    unfold idx
    rw [List.any_cons, Bool.or_eq_true, ← ih]
    split
    · rename_i h; simp [h]
    · rename_i h
      split <;> simp [h] <;> omega
theorem idx_any {α : Type} (p : α → Bool) (l : List α) : decide (0 ≤ idx p l) = l.any p := by
  rw [Bool.eq_iff_iff, decide_eq_true_iff]; exact idx_any_iff p l

end Go.Proofs.Ytpifdeglhalefaa
