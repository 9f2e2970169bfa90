/-
  Maps from integers to integers that a call owns: what they read as, made, written, counted, gone over.
-/
import Derived.Maps.RangeWalk
import Derived.Maps.OwnSet
import Derived.Test.YtpifdeglhalefaaSen
namespace Go.Proofs.Ytpifdeglhalefaa
open Go.RowKit
abbrev DI := DataW Unit
def kI (x : Int) : Lit := .int .i64 x
/-- A datum reads as a partial function on Go's ints. -/
structure Reads (D : DI) (f : Int → Option Int) : Prop where
  isMap : Maps.IsMap D
  has : ∀ x, I64 x → Maps.has D (kI x) = (f x).isSome
  at_ : ∀ x c, f x = some c → ∀ z, D.atKey (kI x) z = .lit (.int .i64 c)
  dom : ∀ kl, Maps.has D kl = true → ∃ x, kl = kI x ∧ I64 x
def updF (f : Int → Option Int) (p c : Int) : Int → Option Int := fun x => if x = p then some c else f x
theorem wf_i64 {x : Int} (h : I64 x) : (Lit.int .i64 x).wf = true := WalkArith.wf_i64 h
theorem key_i64 {x : Int} (h : I64 x) : keyOf Try.prog 3 (.int .i64 x) = some (kI x) := by
  simp [keyOf, show Try.prog.underlying 3 = some (.int .i64) by kernel_rfl, mapKey, kI, wf_i64 h]
theorem keyed_i : Maps.Keyed Try.prog 3 := Maps.int_keyed (q := .i64) (by kernel_rfl)
theorem isKey_i {x : Int} (h : I64 x) : WideAt.IsKeyLit (kI x) := keyed_i.key (key_i64 h)
theorem Reads.empty : Reads (.map []) fun _ => none := ⟨Maps.isMap_empty, fun _ _ => rfl, fun _ _ h => (by cases h), fun kl h => (by cases h)⟩
theorem Reads.put {D : DI} {f : Int → Option Int} (h : Reads D f) {p c : Int} (hp : I64 p) : Reads (D.put (kI p) (.lit (.int .i64 c))) (updF f p c) := by
  refine ⟨h.isMap.put _ _, fun x hx => ?_, fun x d hd z => ?_, fun kl hk => ?_⟩
  · unfold updF
    by_cases e : x = p
    · subst e; simp [Maps.has_put_same h.isMap (isKey_i hp)]
    · rw [Maps.has_put_other (by simpa [kI] using e), if_neg e]; exact h.has x hx
  · unfold updF at hd
    by_cases e : x = p
    · subst e; simp at hd; subst hd; exact Maps.atKey_put_same h.isMap (isKey_i hp) _ _
    · rw [if_neg e] at hd
      rw [Maps.atKey_put_other (by simpa [kI] using e)]; exact h.at_ x d hd z
  · by_cases e : kl = kI p
    · exact ⟨p, e, hp⟩
    · rw [Maps.has_put_other e] at hk; exact h.dom kl hk
/-- Block b is a map that reads as f. -/
def OwnM (w : World) (b : Nat) (f : Int → Option Int) : Prop := ∃ n, ∃ D : DI, w.ownsMap Try.prog 3 (plainElem Try.prog 3) b n D ∧ n ≤ 1000000 ∧ Reads D f
theorem under_map : Try.prog.underlying 115 = some (.map 3 3) := by kernel_rfl
theorem under_int : Try.prog.underlying 3 = some (.int .i64) := by kernel_rfl
theorem OwnM.made (w : World) : OwnM (w.alloc (.map #[] 0)) w.heap.size fun _ => none := ⟨0, .map [], World.ownsMap_made w _ _ _, by omega, Reads.empty⟩
theorem OwnM.lt {w : World} {b : Nat} {f : Int → Option Int} (h : OwnM w b f) : b < w.heap.size := let ⟨_, _, h, _⟩ := h; World.ownsMap.lt h
theorem OwnM.chg {w w' : World} {S : Nat → Prop} {b : Nat} {f : Int → Option Int} (h : OwnM w b f) (hx : Chg S w w') (hs : ¬ S b) : OwnM w' b f := by
  obtain ⟨n, D, ⟨es, clock, hb, F, h1, h2⟩, h3, h4⟩ := h
  exact ⟨n, D, ⟨es, clock, hx.heap hb hs, F, h1, h2⟩, h3, h4⟩
theorem OwnM.ext {w w' : World} {b : Nat} {f : Int → Option Int} (h : OwnM w b f) (hx : Ext w w') : OwnM w' b f := h.chg (hx.chg fun _ => False) id
/-- A map's entry is written. -/
theorem wp_mapUpdate {w : World} {ops : Array Oper} {rest : List Oper} {o : Oper} {a : Act} {Q : Exit → Act → World → Prop} (hg : o.guard = none) (m x v : Operand) (hop : o.op = Op.mapUpdate 115 m x v) (b n : Nat) (D : DI) (f : Int → Option Int)
    (hm : a.eval m = .map (some b)) (hown : w.ownsMap Try.prog 3 (plainElem Try.prog 3) b n D) (hn : n < 1000000) (hr : Reads D f) (p c : Int) (hp : I64 p) (hc : I64 c) (hx : a.eval x = .int .i64 p) (hv : a.eval v = .int .i64 c)
    (hK : ∀ w' D', w'.ownsMap Try.prog 3 (plainElem Try.prog 3) b (n + 1) D' → Reads D' (updF f p c) → w.grownBy w' (some b) → wpList Try.prog ops Q rest (a.put o.dst undef) w') : wpList Try.prog ops Q (o :: rest) a w :=
  wpList_mapUpdate_own w hg m x v 115 hop 3 3 keyed_i under_map _ b n D hm hown (by unfold maxLen; omega) _ _ (kI p) hx hv (key_i64 hp) _ [] (plainElem_int under_int (wf_i64 hc)) fun w' h1 h2 => hK w' _ h1 (hr.put hp) h2
/-- A map's size: whether it has an entry. -/
theorem Reads.size {D : DI} {f : Int → Option Int} (h : Reads D f) (hk : ∀ es, D = .map es → ∀ p ∈ es, WideAt.IsKeyLit p.1) : 0 < Maps.size D ↔ ∃ x, I64 x ∧ (f x).isSome = true := by
  obtain ⟨es, rfl⟩ := h.isMap
  constructor
  · intro hs
    cases es with
    | nil => simp [Maps.size] at hs
    | cons e es =>
      have hh : Maps.has (.map (e :: es) : DI) e.1 = true := by rw [Maps.has_eq, List.any_cons, WideAt.sameKey_self (hk _ rfl e List.mem_cons_self)]; rfl
      obtain ⟨x, hx, hi⟩ := h.dom _ hh
      rw [hx, h.has x hi] at hh
      exact ⟨x, hi, hh⟩
  · rintro ⟨x, hx, hf⟩
    have := h.has x hx
    rw [hf, Maps.has_eq] at this
    obtain ⟨e, he, _⟩ := List.any_eq_true.1 this
    exact List.length_pos_of_mem he
theorem ranges_chg {P : Program} {k : TypeId} {R : Value → Option (DI × List MemPlace)} {w w' : World} {b r n : Nat} {D : DI} {left : Lit → Bool} {cnt : Nat} {S : Nat → Prop} (h : w.ranges P k R b r n D left cnt) (hx : Chg S w w') (h1 : ¬ S b) (h2 : ¬ S r) : w'.ranges P k R b r n D left cnt := by
  obtain ⟨es, clock, since, seen, c0, hb, F, hs, hD, hr, rest⟩ := h
  exact ⟨es, clock, since, seen, c0, hx.heap hb h1, F, hs, hD, hx.heap hr h2, rest⟩
theorem ranges_lt {P : Program} {k : TypeId} {R : Value → Option (DI × List MemPlace)} {w : World} {b r n : Nat} {D : DI} {left : Lit → Bool} {cnt : Nat} (h : w.ranges P k R b r n D left cnt) : b < w.heap.size := h.owns.lt
theorem Reads.entry {D : DI} {f : Int → Option Int} (h : Reads D f) {x c : Int} (h1 : Maps.has D (kI x) = true) (hat : ∀ z, D.atKey (kI x) z = .lit (.int .i64 c)) : f x = some c := by
  have hI : I64 x := by obtain ⟨y, hy, hi⟩ := h.dom _ h1; cases hy; exact hi
  have h2 := h.has x hI
  rw [h1] at h2
  obtain ⟨c', hc'⟩ := Option.isSome_iff_exists.1 h2.symm
  have h3 := h.at_ x c' hc' (.lit (.int .i64 0))
  rw [hat] at h3
  cases h3; exact hc'
theorem Chg.then {S S' : Nat → Prop} {a b c : World} (h : Chg S a b) (k : Chg S' b c) (hs : ∀ i, S' i → a.heap.size ≤ i ∨ S i) : Chg S a c :=
  ⟨k.os.trans h.os, k.tape.trans h.tape, k.output.trans h.output, Nat.le_trans h.size k.size, fun i hi hn => (k.block i (Nat.lt_of_lt_of_le hi h.size) (fun e => by rcases hs i e with h' | h'; omega; exact hn h')).trans (h.block i hi hn)⟩
theorem key_same (x : Int) : (kI x).sameKey (kI x) = true := by simp [kI, Lit.sameKey]
theorem key_other {x y : Int} (h : y ≠ x) : (kI y).sameKey (kI x) = false := by
  cases e : (kI y).sameKey (kI x) with
  | false => rfl
  | true => have := WideAt.sameKey_eq e; cases this; exact absurd rfl h
theorem mem_skip {f : Int → Option Int} {left : Lit → Bool} {xs : List Int} {m x c : Int} (h : ∀ y, y ∈ xs ↔ f y = some m ∧ left (kI y) = false) (hfx : f x = some c) (hne : c ≠ m) :
    ∀ y, y ∈ xs ↔ f y = some m ∧ (left (kI y) && !(kI y).sameKey (kI x)) = false := fun y => by
  rw [h y]
  by_cases e : y = x
  · subst e; rw [hfx]; constructor <;> rintro ⟨h1, _⟩ <;> cases h1 <;> exact absurd rfl hne
  · rw [key_other e]; simp
theorem mem_take {f : Int → Option Int} {left : Lit → Bool} {xs : List Int} {m x : Int} (h : ∀ y, y ∈ xs ↔ f y = some m ∧ left (kI y) = false) (hfx : f x = some m) (hl : left (kI x) = true) (hn : xs.Nodup) :
    (xs ++ [x]).Nodup ∧ ∀ y, y ∈ xs ++ [x] ↔ f y = some m ∧ (left (kI y) && !(kI y).sameKey (kI x)) = false := by
  have hx : x ∉ xs := fun hx => by have := ((h x).1 hx).2; rw [hl] at this; cases this
  refine ⟨List.nodup_append.2 ⟨hn, by simp, fun a ha b hb e => by { simp at hb; subst hb; subst e; exact hx ha }⟩, fun y => ?_⟩
  rw [List.mem_append, h y, List.mem_singleton]
  by_cases e : y = x
  · subst e; simp [hfx, key_same]
  · rw [key_other e]; simp [e]
end Go.Proofs.Ytpifdeglhalefaa
