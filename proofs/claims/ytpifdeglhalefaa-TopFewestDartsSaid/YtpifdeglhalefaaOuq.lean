/-
  Package out: a recursive iterator: its own stores into boxes of bools; drawn regions that hold calls which hand on.
-/
import Derived.Test.YtpifdeglhalefaaOun
namespace Go.Proofs.Ytpifdeglhalefaa
open Go.RowKit Go.BigFrame
/-- A fact that no turn of a block which holds no cells, nor of one of bools, upsets, from B on. -/
def OwnT {β : Type} (B : Nat) (I : β → World → Prop) : Prop :=
  ∀ s A C row, I s A → A.grownBy C row → (∀ r, row = some r → B ≤ r ∧ ((∃ o : Obj, A.heap[r]? = some o ∧ o.isCells = false) ∨ ∃ b0 b1 f, A.heap[r]? = some (.cells #[.bool b0] 4 f) ∧ C.heap[r]? = some (.cells #[.bool b1] 4 f))) → I s C
theorem OwnT.own {β : Type} {B : Nat} {I : β → World → Prop} (h : OwnT B I) : OwnFrom B I := fun s A C row hs hg hr => h s A C row hs hg fun r e => let ⟨h1, o, h2, h3⟩ := hr r e; ⟨h1, .inl ⟨o, h2, h3⟩⟩
theorem OwnT.ext {β : Type} {B : Nat} {I : β → World → Prop} (h : OwnT B I) {s : β} {A C : World} (hs : I s A) (hx : Ext A C) : I s C := h s A C none hs hx.to_grown (fun r e => by cases e)
theorem OwnT.mono {β : Type} {B B' : Nat} {I : β → World → Prop} (h : OwnT B I) (hb : B ≤ B') : OwnT B' I := fun s A C row hs hg hr => h s A C row hs hg fun r e => ⟨Nat.le_trans hb (hr r e).1, (hr r e).2⟩
/-- As SeqB, for an iterator that also writes bools of its own. -/
def SeqT {α : Type} (n : Nat) (P : Program) (g : Nat) (fb lb : Array Value) (encs : α → World → Array Value → Prop) (Kp : World → World → Prop) (S : List α → Prop) (N : Nat) (w : World) : Prop :=
  ∀ (l : Nat) (J : List α → World → Prop) (W : World), Ext w W → w.heap.size + 2 ≤ W.heap.size → OwnT W.heap.size J →
    (∀ pre x vs W1, J pre W1 → encs x W1 vs → pre.length < N → YieldAt Fence.wide (n - 1) P l vs W1 fun e W' => e = .returned (.bool true) ∧ J (pre ++ [x]) W' ∧ Kp W1 W') → J [] W →
    CallsIn Fence.wide n P g (fb ++ #[.func (.yield l) #[] #[]] ++ lb) W fun e W' => (∃ v, e = .returned v) ∧ ∃ xs, S xs ∧ J xs W'
theorem kf_putO {base : Nat} {W : World} {l : Nat} (o' : Obj) (h : l < base) : KeepsFrom base W (W.putObj l o') := KeepsFrom.of_grownBy (grownBy_putObj' W l o') (fun j e => by cases e; exact h)
/-- A loop over it. What is handed on comes as values, of which the iterator tells. -/
theorem wpIn_rangeFunc_d {α : Type} {n : Nat} {P : Program} {g : Operand} {ps : Array Tmp} {assign body : Code} {Q : Exit → Act → World → Prop} {a : Act} {w : World} (h1 : 1 ≤ n) {gf : Nat} {fb lb : Array Value} (hg : a.eval g = .func (.func gf) fb lb) (eg : ∀ args w, (callFunc gf args).run P w = .ok (.enter gf args) w)
    {encs : α → World → Array Value → Prop} {Kp : World → World → Prop} {S : List α → Prop} {N : Nat} (hseq : SeqT (n - 1) P gf fb lb encs Kp S N w) (hKt : ∀ {A B C : World}, Kp A B → Kp B C → Kp A C)
    (hKb : ∀ (W : World) (o o' : Obj), W.heap[w.heap.size + 1]? = some o → o.isCells = false → o.isWalk = false → Kp W (W.putObj (w.heap.size + 1) o')) (hps : ∀ x W vs, encs x W vs → vs.size = ps.size)
    (I : List α → World → Prop) (hI : OwnT w.heap.size I) (h0 : I [] w) (V : α → Array Value → World → Prop) (hV : ∀ x vs, OwnFrom w.heap.size (fun (_ : Unit) W => V x vs W)) (hVe : ∀ x W vs, encs x W vs → V x vs W)
    (Ax : α → Array Value → Act)
    (hassign : ∀ (l : Nat) (x : α) (vs : Array Value) (W : World) (K : Act → World → Prop), V x vs W → K (Ax x vs) W →
      assign.wpIn (Fence.wide.inRound l) (n - 1 - 1) P (Exit.then K (fun _ _ _ => False)) { tmps := (ps.zip vs).foldl (fun t (p, v) => t.setIfInBounds p v) a.tmps, defers := [] } W)
    (hbody : ∀ (l : Nat) (pre : List α) (x : α) (vs : Array Value) (W : World), I pre W → V x vs W → pre.length < N → body.wpIn (Fence.wide.inRound l) (n - 1 - 1) P (fun e _ W' => e = .normal ∧ KeepsFrom w.heap.size W W' ∧ Kp W W' ∧ I (pre ++ [x]) W') (Ax x vs) W)
    (hdone : ∀ (D : Nat) (xs : List α) (W : World), w.heap.size ≤ D → S xs → I xs W → W.heap[D]? = some (.deferred (some [])) → Q .normal { a with defers := { target := .collected D, args := #[] } :: a.defers } W) :
    (Code.rangeFunc g ps assign body).wpIn Fence.wide n P Q a w := by
  refine wpIn_rangeFunc fun fn hfn => ?_
  obtain ⟨rec, hrec⟩ : ∃ rec : LoopState → Option Code → Loop, rec = fun st pe => { state := st, pending := pe, fn, tmps := a.tmps, params := ps, assign, body, defers := w.heap.size } := ⟨_, rfl⟩
  obtain ⟨W1, hW1⟩ : ∃ W1, (w.alloc (.deferred (some []))).alloc (.loop (rec .ready none)) = W1 := ⟨_, rfl⟩
  have hx1 : Ext w W1 := by rw [← hW1]; exact ((Ext.refl w).alloc _).alloc _
  have hs1 : W1.heap.size = w.heap.size + 1 + 1 := by rw [← hW1]; simp
  have hL1 : W1.heap[w.heap.size + 1]? = some (.loop (rec .ready none)) := by
    rw [← hW1]; have := World.alloc_heap_new (w.alloc (.deferred (some []))) (.loop (rec .ready none)); rwa [World.size_alloc] at this
  have hD1 : W1.heap[w.heap.size]? = some (.deferred (some [])) := by
    rw [← hW1]; exact (Below.heap_alloc _ _ _ (by simp)).trans (World.alloc_heap_new w _)
  have hI1 : I [] W1 := by rw [← hW1]; exact hI.own.alloc _ (hI.own.alloc _ h0)
  obtain ⟨J, hJ⟩ : ∃ J : List α → World → Prop, J = fun pre W => I pre W ∧ W.heap[w.heap.size + 1]? = some (.loop (rec .ready none)) ∧ W.heap[w.heap.size]? = some (.deferred (some [])) := ⟨_, rfl⟩
  have hJa : OwnT W1.heap.size J := by
    rw [hJ]
    rintro s A C row ⟨ha, hb, hc⟩ hg' hr
    refine ⟨hI s A C row ha hg' (fun r e => ⟨by have := (hr r e).1; omega, (hr r e).2⟩), (hg'.block _ (Array.getElem?_eq_some_iff.1 hb).1 (fun e => ?_)).trans hb, (hg'.block _ (Array.getElem?_eq_some_iff.1 hc).1 (fun e => ?_)).trans hc⟩
    · have := (hr _ e.symm).1; omega
    · have := (hr _ e.symm).1; omega
  refine ⟨w.heap.size + 1, [{ target := .collected w.heap.size, args := #[] }], W1, { target := .fn (.func gf) lb, args := fb ++ #[.func (.yield (w.heap.size + 1)) #[] #[]] }, W1, gf, fb ++ #[.func (.yield (w.heap.size + 1)) #[] #[]] ++ lb, W1, ?_, ?_, fun _ _ => trivial, ?_, fun _ => h1, ?_⟩
  · change Sem.run P (Instr.enterLoop fn a.tmps ps assign body none) w = _
    rw [← hW1, hrec]; exact run_enterLoop_outer _ _ _ _ _
  · simp only [resolve, hg]
    simp [go_sem]
  · simp [invoke, go_sem, eg]
  refine (hseq (w.heap.size + 1) J W1 hx1 (by omega) hJa ?_ (by rw [hJ]; exact ⟨hI1, hL1, hD1⟩)).mono ?_
  · intro pre x vs W hj hv hN
    rw [hJ] at hj
    obtain ⟨hi, hl, hk⟩ := hj
    have hy := run_yield (P := P) (args := vs) hl (by rw [hrec]; exact hps x W vs hv)
    rw [hrec] at hy
    refine ⟨fn, _, assign, body, hy, roundIn_of_wpIn hfn (hassign _ x vs W _ (hVe x W vs hv) ?_)⟩
    clear hy
    have hlt : w.heap.size + 1 < W.heap.size := (Array.getElem?_eq_some_iff.1 hl).1
    refine ⟨_, run_beginRound hl (by rw [hrec]), ?_⟩
    obtain ⟨Wb, hWb⟩ : ∃ Wb, W.putObj (w.heap.size + 1) (.loop { rec .ready none with state := .busy }) = Wb := ⟨_, rfl⟩
    have hl2 : Wb.heap[w.heap.size + 1]? = some (.loop { rec .ready none with state := .busy }) := by rw [← hWb]; exact World.putObj_heap_same hlt
    have hk2 : Wb.heap[w.heap.size]? = some (.deferred (some [])) := by rw [← hWb]; exact (World.putObj_heap_other (by omega)).trans hk
    have hp2 : Kp W Wb := by rw [← hWb]; exact hKb _ _ _ hl rfl rfl
    have hi2 : I pre Wb := by rw [← hWb]; exact hI.own.putObj _ hi (by omega) hl rfl
    have hv2 : V x vs Wb := by rw [← hWb]; exact (hV x vs).putObj (s := ()) _ (hVe x W vs hv) (by omega) hl rfl
    rw [hWb]
    refine wpIn_mono (hbody _ pre x vs Wb hi2 hv2 hN) ?_
    rintro e a3 W3 ⟨rfl, hk3, hp3, hi3⟩
    have hl3 := hk3.same _ _ (by omega) hl2 rfl
    have hd3 := hk3.same _ _ (Nat.le_refl _) hk2 rfl
    have hlt3 : w.heap.size + 1 < W3.heap.size := (Array.getElem?_eq_some_iff.1 hl3).1
    have he := run_endRound (P := P) none hl3
    rw [hrec] at he hl3
    refine ⟨_, _, he, rfl, ?_, hKt hp2 (hKt hp3 (hKb _ _ _ hl3 rfl rfl))⟩
    rw [hJ]
    refine ⟨hI.own.putObj _ hi3 (by omega) hl3 rfl, ?_, (World.putObj_heap_other (by omega)).trans hd3⟩
    rw [hrec]
    exact World.putObj_heap_same hlt3
  · rintro e W2 ⟨⟨v, rfl⟩, xs, hS, hj⟩
    rw [hJ] at hj
    obtain ⟨hi, hl, hk⟩ := hj
    exact ⟨none, _, by have := run_endLoop (P := P) hl (by rw [hrec]; simp); rw [hrec] at this; exact this, hdone _ xs _ (Nat.le_refl _) hS (hI.own.putObj _ hi (by omega) hl rfl) ((World.putObj_heap_other (by omega)).trans hk)⟩
/-- A world of which something is known. -/
structure Fk (C : World → Prop) where
  world : World
  ok : C world
structure FkT (C T : World → Prop) extends Fk C where
  stay : T world
theorem wpIn_fk_r {n : Nat} {P : Program} {id : Nat} {Q : Exit → Act → World → Prop} {a0 : Act} {w : World} {l : List Oper} (lp : Nat) (hnd : noDefer l.toArray = true) (hm : P.follows .mixedOrders = true)
    (C : World → Prop) (NQ : Nat → Bool) (R : Nat → Value → Prop) (G : (Nat → Bool) → (Nat → Value) → World → Prop)
    (hg : goodReg l.toArray a0.tmps.size = true) (hNQ : ∀ k, NQ k = true → k < l.length) (hG : ∀ L L' u w, (∀ k, NQ k = true → L' k = L k) → G L u w → G L' u w) (hGs : ∀ L u, Stays (G L u))
    (hC : C w.drew) (u0 : Nat → Value) (hu0 : ∀ k, NQ k = true → R k (u0 k)) (hG0 : G (fun _ => false) u0 w.drew)
    (h : ∀ T, Stays T → Nonempty (FkT C T) → ∀ u, (∀ k, NQ k = true → R k (u k)) → Lx P l.toArray (fun w' => ∃ x : Fk C, w' = x.world) NQ R G (fun w' => ∃ x : FkT C T, w' = x.toFk.world) u (fun a => ∀ x : Fk C, G (fun _ => true) u x.world → Q .normal a x.world) 0 l a0) : (Code.region id l.toArray true).wpIn (Fence.wide.inRound lp) n P Q a0 w := by
  refine wpIn_region_ghost_r lp hnd hm (fun w' => ∃ x : Fk C, w' = x.world) NQ R G hg hNQ hG hGs ⟨⟨_, hC⟩, rfl⟩ u0 hu0 hG0 fun T hT hE u hu => ?_
  have e : (fun w' => (∃ x : Fk C, w' = x.world) ∧ T w') = fun w' => ∃ x : FkT C T, w' = x.toFk.world := funext fun w' => propext ⟨fun ⟨⟨x, hx⟩, ht⟩ => ⟨⟨x, hx ▸ ht⟩, hx⟩, fun ⟨x, hx⟩ => ⟨⟨x.toFk, hx⟩, hx ▸ x.stay⟩⟩
  rw [e]
  have e2 : (fun a => ∀ w', (∃ x : Fk C, w' = x.world) → G (fun _ => true) u w' → Q .normal a w') = fun a => ∀ x : Fk C, G (fun _ => true) u x.world → Q .normal a x.world :=
    funext fun a => propext ⟨fun h x hx => h _ ⟨x, rfl⟩ hx, fun h w' ⟨x, hx⟩ hg => by subst hx; exact h x hg⟩
  rw [e2]
  exact h T hT (let ⟨w', ⟨x, hx⟩, ht⟩ := hE; ⟨⟨x, hx ▸ ht⟩⟩) u hu
theorem wpIn_fk {n : Nat} {P : Program} {id : Nat} {Q : Exit → Act → World → Prop} {a0 : Act} {w : World} {l : List Oper} (hm : P.follows .mixedOrders = true)
    (C : World → Prop) (NQ : Nat → Bool) (R : Nat → Value → Prop) (G : (Nat → Bool) → (Nat → Value) → World → Prop)
    (hg : goodReg l.toArray a0.tmps.size = true) (hNQ : ∀ k, NQ k = true → k < l.length) (hG : ∀ L L' u w, (∀ k, NQ k = true → L' k = L k) → G L u w → G L' u w) (hGs : ∀ L u, Stays (G L u))
    (hC : C w.drew) (u0 : Nat → Value) (hu0 : ∀ k, NQ k = true → R k (u0 k)) (hG0 : G (fun _ => false) u0 w.drew)
    (h : ∀ T, Stays T → Nonempty (FkT C T) → ∀ u, (∀ k, NQ k = true → R k (u k)) → Lx P l.toArray (fun w' => ∃ x : Fk C, w' = x.world) NQ R G (fun w' => ∃ x : FkT C T, w' = x.toFk.world) u (fun a => ∀ x : Fk C, G (fun _ => true) u x.world → Q .normal a x.world) 0 l a0) : (Code.region id l.toArray true).wpIn Fence.wide n P Q a0 w := by
  refine wpIn_region_ghost hm (fun w' => ∃ x : Fk C, w' = x.world) NQ R G hg hNQ hG hGs ⟨⟨_, hC⟩, rfl⟩ u0 hu0 hG0 fun T hT hE u hu => ?_
  have e : (fun w' => (∃ x : Fk C, w' = x.world) ∧ T w') = fun w' => ∃ x : FkT C T, w' = x.toFk.world := funext fun w' => propext ⟨fun ⟨⟨x, hx⟩, ht⟩ => ⟨⟨x, hx ▸ ht⟩, hx⟩, fun ⟨x, hx⟩ => ⟨⟨x.toFk, hx⟩, hx ▸ x.stay⟩⟩
  rw [e]
  have e2 : (fun a => ∀ w', (∃ x : Fk C, w' = x.world) → G (fun _ => true) u w' → Q .normal a w') = fun a => ∀ x : Fk C, G (fun _ => true) u x.world → Q .normal a x.world :=
    funext fun a => propext ⟨fun h x hx => h _ ⟨x, rfl⟩ hx, fun h w' ⟨x, hx⟩ hg => by subst hx; exact h x hg⟩
  rw [e2]
  exact h T hT (let ⟨w', ⟨x, hx⟩, ht⟩ := hE; ⟨⟨x, hx ▸ ht⟩⟩) u hu
end Go.Proofs.Ytpifdeglhalefaa
