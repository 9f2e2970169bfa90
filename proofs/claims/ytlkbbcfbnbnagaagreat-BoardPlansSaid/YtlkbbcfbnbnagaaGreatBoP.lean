/-
  Package board: what rounds keep; slices that are read; Clip.
-/
import Derived.Test.YtlkbbcfbnbnagaaGreatBoN
import Derived.Test.YtlkbbcfbnbnagaaGreatBoQ
import Derived.ArgAppend
namespace Go.Proofs.YtlkbbcfbnbnagaaGreat
open Go.RowKit Go.Shelf
attribute [local go_sem] Oper.semAt_some
/-- Blocks of cells that are not of S lie as they lay. -/
structure Kc (S : Nat → Prop) (A B : World) : Prop where
  size : A.heap.size ≤ B.heap.size
  keep : ∀ k cs t f, A.heap[k]? = some (.cells cs t f) → ¬ S k → B.heap[k]? = some (.cells cs t f)
theorem Kc.refl (S : Nat → Prop) (A : World) : Kc S A A := ⟨Nat.le_refl _, fun _ _ _ _ h _ => h⟩
theorem Kc.trans {S : Nat → Prop} {A B C : World} (h : Kc S A B) (k : Kc S B C) : Kc S A C := ⟨Nat.le_trans h.size k.size, fun i cs t f hi hs => k.keep i cs t f (h.keep i cs t f hi hs) hs⟩
theorem Kc.of_ext {S : Nat → Prop} {A B : World} (h : Ext A B) : Kc S A B := ⟨h.size, fun _ _ _ _ hi _ => h.heap hi⟩
theorem Kc.ext {S : Nat → Prop} {A B C : World} (h : Kc S A B) (k : Ext B C) : Kc S A C := h.trans (.of_ext k)
theorem Kc.of_chg {S : Nat → Prop} {A B : World} (h : Chg S A B) : Kc S A B := ⟨h.size, fun _ _ _ _ hi hs => h.heap hi hs⟩
theorem Kc.put (S : Nat → Prop) (W : World) (l : Nat) (o o' : Obj) (h : W.heap[l]? = some o) (ho : o.isCells = false) : Kc S W (W.putObj l o') :=
  ⟨(grownBy_putObj' W l o').size, fun k cs t f hk _ => by
    have hne : k ≠ l := by rintro rfl; rw [h] at hk; cases hk; cases ho
    exact (World.putObj_heap_other hne).trans hk⟩
theorem Kc.blk {S : Nat → Prop} {A B : World} (h : Kc S A B) {b : Nat} {cs : Array Value} (hb : Blk A b cs) (hs : ¬ S b) : Blk B b cs := let ⟨t, ht⟩ := hb; ⟨t, h.keep _ _ _ _ ht hs⟩
structure Ck (S : Nat → Prop) (w : World) where
  world : World
  kept : Kc S w world
structure CkT (S : Nat → Prop) (w : World) (T : World → Prop) extends Ck S w where
  stay : T world
theorem Calls.ck {P : Program} {S : Nat → Prop} {w : World} {T : World → Prop} (hT : Stays T) {x : CkT S w T} {f : FuncId} {args : Array Value} {v : Value} (h : Calls P f args x.toCk.world fun e w' => e = .returned v ∧ Ext x.toCk.world w') :
    Calls P f args x.toCk.world fun e w'' => e = .returned v ∧ ∃ y : CkT S w T, w'' = y.toCk.world :=
  h.mono fun _ _ ⟨he, hx⟩ => ⟨he, ⟨⟨_, x.kept.ext hx⟩, hT _ _ x.stay hx⟩, rfl⟩
/-- A region that draws its order, inside the fence, in worlds that keep what is not of S. -/
theorem wpIn_region_ck {n : Nat} {P : Program} {id : Nat} {Q : Exit → Act → World → Prop} {a0 : Act} {w : World} {l : List Oper} (hm : P.follows .mixedOrders = true)
    (S : Nat → Prop) (NQ : Nat → Bool) (R : Nat → Value → Prop) (G : (Nat → Bool) → (Nat → Value) → World → Prop)
    (hg : goodReg l.toArray a0.tmps.size = true) (hNQ : ∀ k, NQ k = true → k < l.length) (hG : ∀ L L' u w, (∀ k, NQ k = true → L' k = L k) → G L u w → G L' u w) (hGs : ∀ L u, Stays (G L u))
    (u0 : Nat → Value) (hu0 : ∀ k, NQ k = true → R k (u0 k)) (hG0 : G (fun _ => false) u0 w.drew)
    (h : ∀ T, Stays T → Nonempty (CkT S w T) → ∀ u, (∀ k, NQ k = true → R k (u k)) → Lx P l.toArray (fun w' => ∃ x : Ck S w, w' = x.world) NQ R G (fun w' => ∃ x : CkT S w T, w' = x.toCk.world) u (fun a => ∀ x : Ck S w, G (fun _ => true) u x.world → Q .normal a x.world) 0 l a0) : (Code.region id l.toArray true).wpIn Fence.wide n P Q a0 w := by
  refine wpIn_region_ghost hm (fun w' => ∃ x : Ck S w, w' = x.world) NQ R G hg hNQ hG hGs ⟨⟨w.drew, .of_ext (Ext.refl w).drew⟩, rfl⟩ u0 hu0 hG0 fun T hT hE u hu => ?_
  have e : (fun w' => (∃ x : Ck S w, w' = x.world) ∧ T w') = fun w' => ∃ x : CkT S w T, w' = x.toCk.world := funext fun w' => propext ⟨fun ⟨⟨x, hx⟩, ht⟩ => ⟨⟨x, hx ▸ ht⟩, hx⟩, fun ⟨x, hx⟩ => ⟨⟨x.toCk, hx⟩, hx ▸ x.stay⟩⟩
  rw [e]
  have e2 : (fun a => ∀ w', (∃ x : Ck S w, w' = x.world) → G (fun _ => true) u w' → Q .normal a w') = fun a => ∀ x : Ck S w, G (fun _ => true) u x.world → Q .normal a x.world :=
    funext fun a => propext ⟨fun h x hx => h _ ⟨x, rfl⟩ hx, fun h w' ⟨x, hx⟩ hg => by subst hx; exact h x hg⟩
  rw [e2]
  exact h T hT (let ⟨w', ⟨x, hx⟩, ht⟩ := hE; ⟨⟨x, hx ▸ ht⟩⟩) u hu
theorem Ext.of_grown {w w' : World} (h : w.grownBy w' none) : Ext w w' := Chg.to_ext (Ext.refl w) (grown_chg h) (fun i e => by cases e)
theorem Ext.to_grown {w w' : World} (h : Ext w w') : w.grownBy w' none := ⟨Below.os h, Below.tape h, Below.output h, Below.size h, fun k hk _ => Below.block h k hk⟩
/-- A slice of integers that may be read, outside S. -/
def RdI (S : Nat → Prop) (W : World) (v : Value) (xs : List Int) : Prop :=
  (v = .slice none 0 0 ∧ xs = []) ∨ ∃ b o c cs t f, v = .slice (some ⟨b, o, none⟩) xs.length c ∧ xs.length ≤ c ∧ c ≤ maxLen ∧ ¬ S b ∧ W.heap[b]? = some (.cells cs t f) ∧ ∀ i, (h : i < xs.length) → cs[o + i]? = some (.int .i64 xs[i])
theorem RdI.keep {S : Nat → Prop} {A B : World} {v : Value} {xs : List Int} (h : RdI S A v xs) (k : Kc S A B) : RdI S B v xs := by
  rcases h with h | ⟨b, o, c, cs, t, f, h1, h2, h3, h4, h5, h6⟩
  · exact .inl h
  · exact .inr ⟨b, o, c, cs, t, f, h1, h2, h3, h4, k.keep _ _ _ _ h5 h4, h6⟩
theorem RdI.cells {S : Nat → Prop} {W : World} {v : Value} {xs : List Int} (h : RdI S W v xs) : ∃ a c, v = .slice a xs.length c ∧ CellsAt W .i64 a xs ∧ xs.length ≤ c ∧ c ≤ maxLen ∧ (a = none → xs.length = 0 ∧ c = 0) := by
  rcases h with ⟨rfl, rfl⟩ | ⟨b, o, c, cs, t, f, h1, h2, h3, h4, h5, h6⟩
  · exact ⟨none, 0, rfl, CellsAt.nil _ _ _, Nat.le_refl _, by decide, fun _ => ⟨rfl, rfl⟩⟩
  · exact ⟨_, c, h1, fun i hi => ⟨b, o, rfl, by unfold World.cell?; simp only [h5]; exact h6 i hi⟩, h2, h3, fun h => by cases h⟩
theorem RdI.addr {S : Nat → Prop} {W : World} {a : Option Addr} {n c : Nat} {xs : List Int} (h : RdI S W (.slice a n c) xs) : ∀ ad, a = some ad → ∃ b o, ad = ⟨b, o, none⟩ := by
  intro ad ha
  subst ha
  rcases h with ⟨h1, h2⟩ | ⟨b, o, c, cs, t, f, h1, -⟩
  · cases h1
  · cases h1; exact ⟨b, o, rfl⟩
theorem RdI.head {S : Nat → Prop} {W : World} {v : Value} {xs : List Int} (h : RdI S W v xs) (h0 : 0 < xs.length) : ∃ b o c, v = .slice (some ⟨b, o, none⟩) xs.length c ∧ CellsAt W .i64 (some ⟨b, o, none⟩) xs ∧ xs.length ≤ c ∧ c ≤ maxLen := by
  rcases h with ⟨rfl, rfl⟩ | ⟨b, o, c, cs, t, f, h1, h2, h3, h4, h5, h6⟩
  · simp at h0
  · exact ⟨b, o, c, h1, fun i hi => ⟨b, o, rfl, by unfold World.cell?; simp only [h5]; exact h6 i hi⟩, h2, h3⟩
theorem RdI.of_own {S : Nat → Prop} {W : World} {base : Nat} {v : Value} {xs : List Int} (h : OwnI W base v xs) (hS : ∀ k, base ≤ k → ¬ S k) : RdI S W v xs := by
  obtain ⟨h1, ⟨e, h2⟩ | ⟨g, cap, cur, e, h2, h3, h4, h5, h6, h7⟩⟩ := h
  · exact .inl ⟨e, List.length_eq_zero_iff.1 h2⟩
  · refine .inr ⟨g, 0, cap, cur, _, _, e, h4, h5, hS g h2, h3, fun i hi => ?_⟩
    have : (cur.toList.take (xs.length * 1))[i]? = some (.int .i64 xs[i]) := by rw [h7]; simp [hi]
    rw [List.getElem?_take_of_lt (by omega)] at this
    simpa using this
/-- A slice of such slices. -/
def WksAt (S : Nat → Prop) (W : World) (v : Value) (wks : List (List Int)) : Prop :=
  ∃ a c, v = .slice a wks.length c ∧ wks.length ≤ c ∧ c ≤ maxLen ∧ ∀ i, (h : i < wks.length) → ∃ b o cs t f u, a = some ⟨b, o, none⟩ ∧ ¬ S b ∧ W.heap[b]? = some (.cells cs t f) ∧ cs[o + i]? = some u ∧ RdI S W u wks[i]
theorem WksAt.keep {S : Nat → Prop} {A B : World} {v : Value} {wks : List (List Int)} (h : WksAt S A v wks) (k : Kc S A B) : WksAt S B v wks := by
  obtain ⟨a, c, h1, h2, h3, h4⟩ := h
  refine ⟨a, c, h1, h2, h3, fun i hi => ?_⟩
  obtain ⟨b, o, cs, t, f, u, e1, e2, e3, e4, e5⟩ := h4 i hi
  exact ⟨b, o, cs, t, f, u, e1, e2, k.keep _ _ _ _ e3 e2, e4, e5.keep k⟩
/-- The first, and the rest. -/
theorem WksAt.cons {S : Nat → Prop} {W : World} {v : Value} {wk : List Int} {wks : List (List Int)} (h : WksAt S W v (wk :: wks)) :
    ∃ b o c u, v = .slice (some ⟨b, o, none⟩) (wks.length + 1) c ∧ wks.length + 1 ≤ c ∧ c ≤ maxLen ∧ ¬ S b ∧ b < W.heap.size ∧ (∀ W', Kc S W W' → W'.cell? ⟨b, o, none⟩ = some u) ∧ RdI S W u wk ∧ WksAt S W (.slice (if c = 1 then some ⟨b, o, none⟩ else some ⟨b, o + 1, none⟩) wks.length (c - 1)) wks := by
  obtain ⟨a, c, h1, h2, h3, h4⟩ := h
  obtain ⟨b, o, cs, t, f, u, rfl, e2, e3, e4, e5⟩ := h4 0 (by simp)
  simp only [List.length_cons] at h1 h2
  refine ⟨b, o, c, u, h1, h2, h3, e2, (Array.getElem?_eq_some_iff.1 e3).1, fun W' k => by unfold World.cell?; simp only [k.keep _ _ _ _ e3 e2]; exact e4, e5, ?_⟩
  refine ⟨_, _, rfl, by omega, by omega, fun i hi => ?_⟩
  rw [if_neg (by omega)]
  obtain ⟨b', o', cs', t', f', u', e1', e2', e3', e4', e5'⟩ := h4 (i + 1) (by simpa using hi)
  cases e1'
  exact ⟨b, o + 1, cs', t', f', u', rfl, e2', e3', by rw [Nat.add_assoc, Nat.add_comm 1 i]; exact e4', e5'⟩
set_option maxRecDepth 100000 in
theorem clip_i (a : Option Addr) (n c : Nat) (w : World) (hnil : a = none → n = 0 ∧ c = 0) (hn : n ≤ c) (hc : c ≤ maxLen) (hb : ∀ ad, a = some ad → ∃ b o, ad = ⟨b, o, none⟩) :
    Calls Tryz.prog 79 #[.slice a n c] w fun e w' => e = .returned (.slice a n n) ∧ Ext w w' := by
  unfold maxLen at hc
  have hcc : (n : Int) ≤ (c : Int) := by omega
  cases a with
  | none =>
    obtain ⟨rfl, rfl⟩ := hnil rfl
    clear hnil hb
    go_enter Tryz.func79, Tryz.ntmps79
    go_wp2
    go_ret
    exact ⟨rfl, Ext.refl _⟩
  | some ad =>
    obtain ⟨b, o, rfl⟩ := hb ad rfl
    clear hnil hb
    go_enter Tryz.func79, Tryz.ntmps79
    go_wp2
    go_ret
    exact ⟨rfl, Ext.refl _⟩
end Go.Proofs.YtlkbbcfbnbnagaaGreat
