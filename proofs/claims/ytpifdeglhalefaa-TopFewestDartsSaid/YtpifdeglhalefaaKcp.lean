/-
  What rounds keep; slices that are read. No program here.
-/
import Derived.Test.YtpifdeglhalefaaSen
import Derived.RangeFuncNested
import Derived.RangeFuncBound
import Derived.RangeFuncCalls
import Derived.RangeFuncLeaves
import Derived.OwnWalkIn
import Derived.ArgAppend
namespace Go.Proofs.Ytpifdeglhalefaa
open Go.RowKit
theorem exec_in {P : Program} {ops : Array Oper} {n : Nat} {Q : Exit → Act → World → Prop} : Exec P ops (wpOpIn Fence.wide n P ops Q) := by
  refine ⟨fun {i o K a w} ho hw h => ?_, fun {i o K a w} ho hw h => ?_⟩
  · unfold wpOpIn
    simp only [ho]
    rw [if_pos hw]
    unfold Gives at h
    unfold Oper.wpIn
    refine ⟨fun _ _ => trivial, ?_⟩
    change Oper.uponIn Fence.wide n P o a K Q (Sem.run P (o.semAt none a.eval) w)
    rw [Oper.semAt_none]
    generalize (execOp a.eval o).run P w = r at *
    cases r with
    | ok x w' =>
      cases x <;> simp only [Oper.uponIn] at h ⊢ <;> first | exact h.elim | skip
      case value v => exact h
      case skip => exact h
      case enter f args => exact ⟨fun h => (by cases h), callsIn_wide.2 (h.mono fun e w'' ⟨v, he, hk⟩ => by subst he; exact hk)⟩
      case row row args => exact ⟨fun h => (by cases h), fun c cs _ => let ⟨v, w2, r, s⟩ := h c cs; ⟨v, w2, r, stepsIn_wide.2 s⟩⟩
    | halt x w' => exact h.elim
  · unfold wpOpIn
    simp only [ho]
    rw [if_neg (by rw [hw]; exact Bool.false_ne_true)]
    exact ⟨fun _ _ => trivial, h⟩
def noDefer (ops : Array Oper) : Bool := ops.all fun o => match o.op with | .defer _ => false | _ => true
theorem exec_round {P : Program} {ops : Array Oper} {n : Nat} {Q : Exit → Act → World → Prop} (l : Nat) (hnd : noDefer ops = true) : Exec P ops (wpOpIn (Fence.wide.inRound l) n P ops Q) := by
  refine ⟨fun {i o K a w} ho hw h => ?_, fun {i o K a w} ho hw h => ?_⟩
  · unfold wpOpIn
    simp only [ho]
    rw [if_pos hw]
    unfold Gives at h
    unfold Oper.wpIn
    refine ⟨fun _ _ => trivial, ?_⟩
    change Oper.uponIn (Fence.wide.inRound l) n P o a K Q (Sem.run P (o.semAt (some l) a.eval) w)
    have hd : ∀ c, o.op ≠ .defer c := by
      intro c hc
      have := Array.all_eq_true_iff_forall_mem.1 hnd o (Array.mem_of_getElem? ho)
      rw [hc] at this; cases this
    rw [Oper.semAt_some l _ _ hd]
    generalize (execOp a.eval o).run P w = r at *
    cases r with
    | ok x w' =>
      cases x <;> simp only [Oper.uponIn] at h ⊢ <;> first | exact h.elim | skip
      case value v => exact h
      case skip => exact h
      case enter f args => exact ⟨fun h => (by cases h), CallsIn.inRound l (callsIn_wide.2 (h.mono fun e w'' ⟨v, he, hk⟩ => by subst he; exact hk))⟩
      case row row args => exact ⟨fun h => (by cases h), fun c cs _ => let ⟨v, w2, r, s⟩ := h c cs; ⟨v, w2, r, stepsIn_wide.2 s⟩⟩
    | halt x w' => exact h.elim
  · unfold wpOpIn
    simp only [ho]
    rw [if_neg (by rw [hw]; exact Bool.false_ne_true)]
    exact ⟨fun _ _ => trivial, h⟩
theorem wpIn_region_ghost_r {n : Nat} {P : Program} {id : Nat} {Q : Exit → Act → World → Prop} {a0 : Act} {w : World} {l : List Oper} (lp : Nat) (hnd : noDefer l.toArray = true) (hm : P.follows .mixedOrders = true)
    (C : World → Prop) (NQ : Nat → Bool) (R : Nat → Value → Prop) (G : (Nat → Bool) → (Nat → Value) → World → Prop)
    (hg : goodReg l.toArray a0.tmps.size = true) (hNQ : ∀ k, NQ k = true → k < l.length) (hG : ∀ L L' u w, (∀ k, NQ k = true → L' k = L k) → G L u w → G L' u w) (hGs : ∀ L u, Stays (G L u))
    (hC : C w.drew) (u0 : Nat → Value) (hu0 : ∀ k, NQ k = true → R k (u0 k)) (hG0 : G (fun _ => false) u0 w.drew)
    (h : ∀ T, Stays T → (∃ w, C w ∧ T w) → ∀ u, (∀ k, NQ k = true → R k (u k)) → Lx P l.toArray C NQ R G (fun w => C w ∧ T w) u (fun a => ∀ w', C w' → G (fun _ => true) u w' → Q .normal a w') 0 l a0) : (Code.region id l.toArray true).wpIn (Fence.wide.inRound lp) n P Q a0 w := by
  have g := goodReg_spec hg
  refine wpIn_region_any hm ?_
  refine inv_all (A := wpAnyIn (Fence.wide.inRound lp) n P .any l.toArray Q) (E := Q .normal) (exec_round lp hnd) g hG hGs (by simpa using hNQ) (Fin := fun u a => ∀ w', C w' → G (fun _ => true) u w' → Q .normal a w') h
    (fun u a w' hR hc hg hf => hf w' hc hg) (fun _ _ _ h1 h2 => ⟨h1, h2⟩) (fun _ _ _ _ h1 h2 => ⟨h1, h2⟩) _ _ _ _ ?_ (inv_start g hG hC u0 hu0 hG0 (h (fun _ => True) (fun _ _ _ _ => trivial) ⟨_, hC, trivial⟩ u0 hu0))
  unfold left; exact Nat.le_trans (List.length_filter_le _ _) (by simp)
theorem wpQuiet_mono' {P : Program} {ops : Array Oper} {C : World → Prop} {Q Q' : Act → Prop} (h : ∀ a, Q a → Q' a) : ∀ (l : List Oper) (a : Act), wpQuiet P ops C Q l a → wpQuiet P ops C Q' l a
  | [], a, hq => h a hq
  | o :: l, a, hq => by
    unfold wpQuiet at hq ⊢
    split
    · rename_i hw
      rw [if_pos hw] at hq
      exact Oper.quiet_mono (fun a ha => wpQuiet_mono' h l a ha) hq
    · rename_i hw
      rw [if_neg hw] at hq
      exact wpQuiet_mono' h l _ hq
def NoX : Nat → Nat → Prop := fun _ _ => False
/-- A region that draws its order, in a round: it only reads, or its calls only make memory. -/
theorem wpIn_region_lat_r {n : Nat} {P : Program} {id : Nat} {Q : Exit → Act → World → Prop} {a : Act} {w : World} {l : List Oper} (lp : Nat) (hnd : noDefer l.toArray = true) (hm : P.follows .mixedOrders = true) (hg : goodReg l.toArray a.tmps.size = true)
    (h : ∀ T, Stays T → Nonempty (LatT NoX w T) → wpQuiet P l.toArray (fun w' => ∃ x : LatT NoX w T, w' = x.toLat.world) (fun a' => ∀ w', Ext w w' → Q .normal a' w') l a) : (Code.region id l.toArray true).wpIn (Fence.wide.inRound lp) n P Q a w := by
  refine wpIn_region_ghost_r lp hnd hm (fun w' => ∃ x : Lat NoX w, w' = x.world) (fun _ => false) (fun _ _ => True) (fun _ _ _ => True) hg (fun k h => by cases h) (fun _ _ _ _ _ h => h) (fun _ _ _ _ _ _ => trivial) ⟨Lat.of_ext NoX (Ext.refl w).drew, rfl⟩ (fun _ => undef) (fun k h => by cases h) trivial fun T hT hE u hu => ?_
  have e : (fun w' => (∃ x : Lat NoX w, w' = x.world) ∧ T w') = fun w' => ∃ x : LatT NoX w T, w' = x.toLat.world := funext fun w' => propext ⟨fun ⟨⟨x, hx⟩, ht⟩ => ⟨⟨x, hx ▸ ht⟩, hx⟩, fun ⟨x, hx⟩ => ⟨⟨x.toLat, hx⟩, hx ▸ x.stay⟩⟩
  rw [e]
  have := lx_quiet (P := P) (ops := l.toArray) (C := fun w' => ∃ x : Lat NoX w, w' = x.world) (D := fun w' => ∃ x : LatT NoX w T, w' = x.toLat.world) (NQ := fun _ => false) (R := fun _ _ => True) (G := fun _ _ _ => True) (u := u)
    (Fin := fun a => ∀ w', (∃ x : Lat NoX w, w' = x.world) → True → Q .normal a w') l (i := 0) (rest := []) (a := a) (fun _ _ => rfl) (wpQuiet_mono' (fun a' ha => ?_) l a (h T hT (let ⟨_, ⟨x, hx⟩, ht⟩ := hE; ⟨⟨x, hx ▸ ht⟩⟩)))
  · rwa [List.append_nil] at this
  · show Lx _ _ _ _ _ _ _ _ _ _ [] a'
    refine lx_nil ?_
    rintro w' ⟨x, rfl⟩ _
    exact ha _ (Chg.to_ext (Ext.refl w) (Lat.chg x) (by rintro i ⟨o, h⟩; exact h.elim))
theorem wpIn_region_ghost {n : Nat} {P : Program} {id : Nat} {Q : Exit → Act → World → Prop} {a0 : Act} {w : World} {l : List Oper} (hm : P.follows .mixedOrders = true)
    (C : World → Prop) (NQ : Nat → Bool) (R : Nat → Value → Prop) (G : (Nat → Bool) → (Nat → Value) → World → Prop)
    (hg : goodReg l.toArray a0.tmps.size = true) (hNQ : ∀ k, NQ k = true → k < l.length) (hG : ∀ L L' u w, (∀ k, NQ k = true → L' k = L k) → G L u w → G L' u w) (hGs : ∀ L u, Stays (G L u))
    (hC : C w.drew) (u0 : Nat → Value) (hu0 : ∀ k, NQ k = true → R k (u0 k)) (hG0 : G (fun _ => false) u0 w.drew)
    (h : ∀ T, Stays T → (∃ w, C w ∧ T w) → ∀ u, (∀ k, NQ k = true → R k (u k)) → Lx P l.toArray C NQ R G (fun w => C w ∧ T w) u (fun a => ∀ w', C w' → G (fun _ => true) u w' → Q .normal a w') 0 l a0) : (Code.region id l.toArray true).wpIn Fence.wide n P Q a0 w := by
  have g := goodReg_spec hg
  refine wpIn_region_any hm ?_
  refine inv_all (A := wpAnyIn Fence.wide n P .any l.toArray Q) (E := Q .normal) exec_in g hG hGs (by simpa using hNQ) (Fin := fun u a => ∀ w', C w' → G (fun _ => true) u w' → Q .normal a w') h
    (fun u a w' hR hc hg hf => hf w' hc hg) (fun _ _ _ h1 h2 => ⟨h1, h2⟩) (fun _ _ _ _ h1 h2 => ⟨h1, h2⟩) _ _ _ _ ?_ (inv_start g hG hC u0 hu0 hG0 (h (fun _ => True) (fun _ _ _ _ => trivial) ⟨_, hC, trivial⟩ u0 hu0))
  unfold left; exact Nat.le_trans (List.length_filter_le _ _) (by simp)
/-- An iterator that lays facts (V) of what it hands on, round by round; no round says 'no more'. -/
def SeqV {α : Type} (n : Nat) (P : Program) (g : Nat) (lb : Array Value) (encs : α → Array Value) (V : List α → α → World → Prop) (Kp : World → World → Prop) (S : List α → Prop) (w : World) : Prop :=
  ∀ (l : Nat) (J : List α → World → Prop) (W : World), Ext w W → AbidesFrom W.heap.size J →
    (∀ pre x W1, J pre W1 → V pre x W1 → YieldAt Fence.wide (n - 1) P l (encs x) W1 fun e W' => e = .returned (.bool true) ∧ J (pre ++ [x]) W' ∧ Kp W1 W') → J [] W →
    CallsIn Fence.wide n P g (#[.func (.yield l) #[] #[]] ++ lb) W fun e W' => (∃ v, e = .returned v) ∧ ∃ xs, S xs ∧ J xs W'
/-- A loop over it, whose body always goes on. -/
theorem wpIn_rangeFunc_v {α : Type} {n : Nat} {P : Program} {g : Operand} {ps : Array Tmp} {assign body : Code} {Q : Exit → Act → World → Prop} {a : Act} {w : World} (h1 : 1 ≤ n) {gf : Nat} {lb : Array Value} (hg : a.eval g = .func (.func gf) #[] lb) (eg : ∀ args w, (callFunc gf args).run P w = .ok (.enter gf args) w)
    {encs : α → Array Value} {V : List α → α → World → Prop} {Kp : World → World → Prop} {S : List α → Prop} (hseq : SeqV (n - 1) P gf lb encs V Kp S w) (hKt : ∀ {A B C : World}, Kp A B → Kp B C → Kp A C)
    (hKb : ∀ (W : World) (l : Nat) (o o' : Obj), w.heap.size ≤ l → W.heap[l]? = some o → o.isCells = false → o.isWalk = false → Kp W (W.putObj l o')) (hps : ∀ x, (encs x).size = ps.size)
    (I : List α → World → Prop) (hI : OwnFrom w.heap.size I) (hV : ∀ pre x, OwnFrom w.heap.size (fun (_ : Unit) W => V pre x W)) (h0 : I [] w) (Ax : α → Act → World → Prop) (hAx : ∀ x a', OwnFrom w.heap.size (fun (_ : Unit) W => Ax x a' W))
    (hassign : ∀ (l : Nat) (pre : List α) (x : α) (W : World) (K : Act → World → Prop), I pre W → V pre x W → (∀ a' W', KeepsFrom w.heap.size W W' → Kp W W' → I pre W' → V pre x W' → Ax x a' W' → K a' W') →
      assign.wpIn (Fence.wide.inRound l) (n - 1 - 1) P (Exit.then K (fun _ _ _ => False)) { tmps := (ps.zip (encs x)).foldl (fun t (p, v) => t.setIfInBounds p v) a.tmps, defers := [] } W)
    (hbody : ∀ (l : Nat) (pre : List α) (x : α) (a' : Act) (W : World), I pre W → V pre x W → Ax x a' W → body.wpIn (Fence.wide.inRound l) (n - 1 - 1) P (fun e _ W' => e = .normal ∧ KeepsFrom w.heap.size W W' ∧ Kp W W' ∧ I (pre ++ [x]) W') a' W)
    (hdone : ∀ (D : Nat) (xs : List α) (W : World), w.heap.size ≤ D → S xs → I xs W → W.heap[D]? = some (.deferred (some [])) → Q .normal { a with defers := { target := .collected D, args := #[] } :: a.defers } W) :
    (Code.rangeFunc g ps assign body).wpIn Fence.wide n P Q a w := by
  refine wpIn_rangeFunc fun fn hfn => ?_
  obtain ⟨rec, hrec⟩ : ∃ rec : LoopState → Option Code → Loop, rec = fun st pe => { state := st, pending := pe, fn, tmps := a.tmps, params := ps, assign, body, defers := w.heap.size } := ⟨_, rfl⟩
  obtain ⟨W1, hW1⟩ : ∃ W1, (w.alloc (.deferred (some []))).alloc (.loop (rec .ready none)) = W1 := ⟨_, rfl⟩
  have hx1 : Ext w W1 := by rw [← hW1]; exact ((Ext.refl w).alloc _).alloc _
  have hs1 : W1.heap.size = w.heap.size + 1 + 1 := by rw [← hW1]; simp
  have hL1 : W1.heap[w.heap.size + 1]? = some (.loop (rec .ready none)) := by
    rw [← hW1]; have := World.alloc_heap_new (w.alloc (.deferred (some []))) (.loop (rec .ready none)); rwa [World.size_alloc] at this
  have hD1 : W1.heap[w.heap.size]? = some (.deferred (some [])) := by
    rw [← hW1]; exact (Below.heap_alloc _ _ _ (by simp)).trans (World.alloc_heap_new w _)
  have hI1 : I [] W1 := by rw [← hW1]; exact hI.alloc _ (hI.alloc _ h0)
  -- what stands between two rounds
  obtain ⟨J, hJ⟩ : ∃ J : List α → World → Prop, J = fun pre W => I pre W ∧ W.heap[w.heap.size + 1]? = some (.loop (rec .ready none)) ∧ W.heap[w.heap.size]? = some (.deferred (some [])) := ⟨_, rfl⟩
  have hJa : AbidesFrom W1.heap.size J := by
    rw [hJ]
    rintro s A C row ⟨ha, hb, hc⟩ hg' hr
    have hr' : ∀ r, row = some r → w.heap.size ≤ r ∧ ∃ o : Obj, A.heap[r]? = some o ∧ o.isCells = false := fun r e => by
      obtain ⟨h1, o, h2, h3⟩ := hr r e
      exact ⟨by omega, o, h2, Obj.not_cells_of_walk h3⟩
    exact ⟨hI s A C row ha hg' (hr'), (grownBy_keeps hg' (fun r e => (hr r e).2) hb rfl).trans hb, (grownBy_keeps hg' (fun r e => (hr r e).2) hc rfl).trans hc⟩
  refine ⟨w.heap.size + 1, [{ target := .collected w.heap.size, args := #[] }], W1, { target := .fn (.func gf) lb, args := #[.func (.yield (w.heap.size + 1)) #[] #[]] }, W1, gf, #[.func (.yield (w.heap.size + 1)) #[] #[]] ++ lb, W1, ?_, ?_, fun _ _ => trivial, ?_, fun _ => h1, ?_⟩
  · change Sem.run P (Instr.enterLoop fn a.tmps ps assign body none) w = _
    rw [← hW1, hrec]; exact run_enterLoop_outer _ _ _ _ _
  · simp only [resolve, hg]
    simp [go_sem]
  · simp [invoke, go_sem, eg]
  refine (hseq (w.heap.size + 1) J W1 hx1 hJa ?_ (by rw [hJ]; exact ⟨hI1, hL1, hD1⟩)).mono ?_
  · intro pre x W hj hv
    rw [hJ] at hj
    obtain ⟨hi, hl, hk⟩ := hj
    have hy := run_yield (P := P) (args := encs x) hl (by rw [hrec]; exact hps x)
    rw [hrec] at hy
    refine ⟨fn, _, assign, body, hy, roundIn_of_wpIn hfn (hassign _ pre x W _ hi hv ?_)⟩
    clear hy
    intro a' Wa hka hpa hia hva hax
    replace hl := hka.same _ _ (by omega) hl rfl
    replace hk := hka.same _ _ (Nat.le_refl _) hk rfl
    have hlt : w.heap.size + 1 < Wa.heap.size := (Array.getElem?_eq_some_iff.1 hl).1
    refine ⟨_, run_beginRound hl (by rw [hrec]), ?_⟩
    obtain ⟨Wb, hWb⟩ : ∃ Wb, Wa.putObj (w.heap.size + 1) (.loop { rec .ready none with state := .busy }) = Wb := ⟨_, rfl⟩
    have hl2 : Wb.heap[w.heap.size + 1]? = some (.loop { rec .ready none with state := .busy }) := by rw [← hWb]; exact World.putObj_heap_same hlt
    have hk2 : Wb.heap[w.heap.size]? = some (.deferred (some [])) := by rw [← hWb]; exact (World.putObj_heap_other (by omega)).trans hk
    have hp2 : Kp Wa Wb := by rw [← hWb]; exact hKb _ _ _ _ (by omega) hl rfl rfl
    have hi2 : I pre Wb := by rw [← hWb]; exact hI.putObj _ hia (by omega) hl rfl
    have hv2 : V pre x Wb := by rw [← hWb]; exact (hV pre x).putObj (s := ()) _ hva (by omega) hl rfl
    have ha2 : Ax x a' Wb := by rw [← hWb]; exact (hAx x a').putObj (s := ()) _ hax (by omega) hl rfl
    rw [hWb]
    refine wpIn_mono (hbody _ pre x a' Wb hi2 hv2 ha2) ?_
    rintro e a3 W3 ⟨rfl, hk3, hp3, hi3⟩
    have hl3 := hk3.same _ _ (by omega) hl2 rfl
    have hd3 := hk3.same _ _ (Nat.le_refl _) hk2 rfl
    have hlt3 : w.heap.size + 1 < W3.heap.size := (Array.getElem?_eq_some_iff.1 hl3).1
    have he := run_endRound (P := P) none hl3
    rw [hrec] at he hl3
    refine ⟨_, _, he, rfl, ?_, hKt hpa (hKt hp2 (hKt hp3 (hKb _ _ _ _ (by omega) hl3 rfl rfl)))⟩
    rw [hJ]
    refine ⟨hI.putObj _ hi3 (by omega) hl3 rfl, ?_, (World.putObj_heap_other (by omega)).trans hd3⟩
    rw [hrec]
    exact World.putObj_heap_same hlt3
  · rintro e W2 ⟨⟨v, rfl⟩, xs, hS, hj⟩
    rw [hJ] at hj
    obtain ⟨hi, hl, hk⟩ := hj
    exact ⟨none, _, by have := run_endLoop (P := P) hl (by rw [hrec]; simp); rw [hrec] at this; exact this, hdone _ xs _ (Nat.le_refl _) hS (hI.putObj _ hi (by omega) hl rfl) ((World.putObj_heap_other (by omega)).trans hk)⟩
end Go.Proofs.Ytpifdeglhalefaa
namespace Go.Proofs.Ytpifdeglhalefaa
open Go.RowKit
/-- An iterator that lays facts (V) of what it hands on, round by round; no round says 'no more'. -/
def SeqB {α : Type} (n : Nat) (P : Program) (g : Nat) (fb lb : Array Value) (encs : α → Array Value) (V : List α → α → World → Prop) (Kp : World → World → Prop) (S : List α → Prop) (w : World) : Prop :=
  ∀ (l : Nat) (J : List α → World → Prop) (W : World), Ext w W → AbidesFrom W.heap.size J →
    (∀ pre x W1, J pre W1 → V pre x W1 → YieldAt Fence.wide (n - 1) P l (encs x) W1 fun e W' => e = .returned (.bool true) ∧ J (pre ++ [x]) W' ∧ Kp W1 W') → J [] W →
    CallsIn Fence.wide n P g (fb ++ #[.func (.yield l) #[] #[]] ++ lb) W fun e W' => (∃ v, e = .returned v) ∧ ∃ xs, S xs ∧ J xs W'
/-- A loop over it (a method value: its receiver is fb), whose body always goes on. -/
theorem wpIn_rangeFunc_b {α : Type} {n : Nat} {P : Program} {g : Operand} {ps : Array Tmp} {assign body : Code} {Q : Exit → Act → World → Prop} {a : Act} {w : World} (h1 : 1 ≤ n) {gf : Nat} {fb lb : Array Value} (hg : a.eval g = .func (.func gf) fb lb) (eg : ∀ args w, (callFunc gf args).run P w = .ok (.enter gf args) w)
    {encs : α → Array Value} {V : List α → α → World → Prop} {Kp : World → World → Prop} {S : List α → Prop} (hseq : SeqB (n - 1) P gf fb lb encs V Kp S w) (hKt : ∀ {A B C : World}, Kp A B → Kp B C → Kp A C)
    (hKb : ∀ (W : World) (l : Nat) (o o' : Obj), w.heap.size ≤ l → W.heap[l]? = some o → o.isCells = false → o.isWalk = false → Kp W (W.putObj l o')) (hps : ∀ x, (encs x).size = ps.size)
    (I : List α → World → Prop) (hI : OwnFrom w.heap.size I) (hV : ∀ pre x, OwnFrom w.heap.size (fun (_ : Unit) W => V pre x W)) (h0 : I [] w) (Ax : α → Act → World → Prop) (hAx : ∀ x a', OwnFrom w.heap.size (fun (_ : Unit) W => Ax x a' W))
    (hassign : ∀ (l : Nat) (pre : List α) (x : α) (W : World) (K : Act → World → Prop), I pre W → V pre x W → (∀ a' W', KeepsFrom w.heap.size W W' → Kp W W' → I pre W' → V pre x W' → Ax x a' W' → K a' W') →
      assign.wpIn (Fence.wide.inRound l) (n - 1 - 1) P (Exit.then K (fun _ _ _ => False)) { tmps := (ps.zip (encs x)).foldl (fun t (p, v) => t.setIfInBounds p v) a.tmps, defers := [] } W)
    (hbody : ∀ (l : Nat) (pre : List α) (x : α) (a' : Act) (W : World), I pre W → V pre x W → Ax x a' W → body.wpIn (Fence.wide.inRound l) (n - 1 - 1) P (fun e _ W' => e = .normal ∧ KeepsFrom w.heap.size W W' ∧ Kp W W' ∧ I (pre ++ [x]) W') a' W)
    (hdone : ∀ (D : Nat) (xs : List α) (W : World), w.heap.size ≤ D → S xs → I xs W → W.heap[D]? = some (.deferred (some [])) → Q .normal { a with defers := { target := .collected D, args := #[] } :: a.defers } W) :
    (Code.rangeFunc g ps assign body).wpIn Fence.wide n P Q a w := by
  refine wpIn_rangeFunc fun fn hfn => ?_
  obtain ⟨rec, hrec⟩ : ∃ rec : LoopState → Option Code → Loop, rec = fun st pe => { state := st, pending := pe, fn, tmps := a.tmps, params := ps, assign, body, defers := w.heap.size } := ⟨_, rfl⟩
  obtain ⟨W1, hW1⟩ : ∃ W1, (w.alloc (.deferred (some []))).alloc (.loop (rec .ready none)) = W1 := ⟨_, rfl⟩
  have hx1 : Ext w W1 := by rw [← hW1]; exact ((Ext.refl w).alloc _).alloc _
  have hs1 : W1.heap.size = w.heap.size + 1 + 1 := by rw [← hW1]; simp
  have hL1 : W1.heap[w.heap.size + 1]? = some (.loop (rec .ready none)) := by
    rw [← hW1]; have := World.alloc_heap_new (w.alloc (.deferred (some []))) (.loop (rec .ready none)); rwa [World.size_alloc] at this
  have hD1 : W1.heap[w.heap.size]? = some (.deferred (some [])) := by
    rw [← hW1]; exact (Below.heap_alloc _ _ _ (by simp)).trans (World.alloc_heap_new w _)
  have hI1 : I [] W1 := by rw [← hW1]; exact hI.alloc _ (hI.alloc _ h0)
  -- what stands between two rounds
  obtain ⟨J, hJ⟩ : ∃ J : List α → World → Prop, J = fun pre W => I pre W ∧ W.heap[w.heap.size + 1]? = some (.loop (rec .ready none)) ∧ W.heap[w.heap.size]? = some (.deferred (some [])) := ⟨_, rfl⟩
  have hJa : AbidesFrom W1.heap.size J := by
    rw [hJ]
    rintro s A C row ⟨ha, hb, hc⟩ hg' hr
    have hr' : ∀ r, row = some r → w.heap.size ≤ r ∧ ∃ o : Obj, A.heap[r]? = some o ∧ o.isCells = false := fun r e => by
      obtain ⟨h1, o, h2, h3⟩ := hr r e
      exact ⟨by omega, o, h2, Obj.not_cells_of_walk h3⟩
    exact ⟨hI s A C row ha hg' (hr'), (grownBy_keeps hg' (fun r e => (hr r e).2) hb rfl).trans hb, (grownBy_keeps hg' (fun r e => (hr r e).2) hc rfl).trans hc⟩
  refine ⟨w.heap.size + 1, [{ target := .collected w.heap.size, args := #[] }], W1, { target := .fn (.func gf) lb, args := fb ++ #[.func (.yield (w.heap.size + 1)) #[] #[]] }, W1, gf, fb ++ #[.func (.yield (w.heap.size + 1)) #[] #[]] ++ lb, W1, ?_, ?_, fun _ _ => trivial, ?_, fun _ => h1, ?_⟩
  · change Sem.run P (Instr.enterLoop fn a.tmps ps assign body none) w = _
    rw [← hW1, hrec]; exact run_enterLoop_outer _ _ _ _ _
  · simp only [resolve, hg]
    simp [go_sem]
  · simp [invoke, go_sem, eg]
  refine (hseq (w.heap.size + 1) J W1 hx1 hJa ?_ (by rw [hJ]; exact ⟨hI1, hL1, hD1⟩)).mono ?_
  · intro pre x W hj hv
    rw [hJ] at hj
    obtain ⟨hi, hl, hk⟩ := hj
    have hy := run_yield (P := P) (args := encs x) hl (by rw [hrec]; exact hps x)
    rw [hrec] at hy
    refine ⟨fn, _, assign, body, hy, roundIn_of_wpIn hfn (hassign _ pre x W _ hi hv ?_)⟩
    clear hy
    intro a' Wa hka hpa hia hva hax
    replace hl := hka.same _ _ (by omega) hl rfl
    replace hk := hka.same _ _ (Nat.le_refl _) hk rfl
    have hlt : w.heap.size + 1 < Wa.heap.size := (Array.getElem?_eq_some_iff.1 hl).1
    refine ⟨_, run_beginRound hl (by rw [hrec]), ?_⟩
    obtain ⟨Wb, hWb⟩ : ∃ Wb, Wa.putObj (w.heap.size + 1) (.loop { rec .ready none with state := .busy }) = Wb := ⟨_, rfl⟩
    have hl2 : Wb.heap[w.heap.size + 1]? = some (.loop { rec .ready none with state := .busy }) := by rw [← hWb]; exact World.putObj_heap_same hlt
    have hk2 : Wb.heap[w.heap.size]? = some (.deferred (some [])) := by rw [← hWb]; exact (World.putObj_heap_other (by omega)).trans hk
    have hp2 : Kp Wa Wb := by rw [← hWb]; exact hKb _ _ _ _ (by omega) hl rfl rfl
    have hi2 : I pre Wb := by rw [← hWb]; exact hI.putObj _ hia (by omega) hl rfl
    have hv2 : V pre x Wb := by rw [← hWb]; exact (hV pre x).putObj (s := ()) _ hva (by omega) hl rfl
    have ha2 : Ax x a' Wb := by rw [← hWb]; exact (hAx x a').putObj (s := ()) _ hax (by omega) hl rfl
    rw [hWb]
    refine wpIn_mono (hbody _ pre x a' Wb hi2 hv2 ha2) ?_
    rintro e a3 W3 ⟨rfl, hk3, hp3, hi3⟩
    have hl3 := hk3.same _ _ (by omega) hl2 rfl
    have hd3 := hk3.same _ _ (Nat.le_refl _) hk2 rfl
    have hlt3 : w.heap.size + 1 < W3.heap.size := (Array.getElem?_eq_some_iff.1 hl3).1
    have he := run_endRound (P := P) none hl3
    rw [hrec] at he hl3
    refine ⟨_, _, he, rfl, ?_, hKt hpa (hKt hp2 (hKt hp3 (hKb _ _ _ _ (by omega) hl3 rfl rfl)))⟩
    rw [hJ]
    refine ⟨hI.putObj _ hi3 (by omega) hl3 rfl, ?_, (World.putObj_heap_other (by omega)).trans hd3⟩
    rw [hrec]
    exact World.putObj_heap_same hlt3
  · rintro e W2 ⟨⟨v, rfl⟩, xs, hS, hj⟩
    rw [hJ] at hj
    obtain ⟨hi, hl, hk⟩ := hj
    exact ⟨none, _, by have := run_endLoop (P := P) hl (by rw [hrec]; simp); rw [hrec] at this; exact this, hdone _ xs _ (Nat.le_refl _) hS (hI.putObj _ hi (by omega) hl rfl) ((World.putObj_heap_other (by omega)).trans hk)⟩
end Go.Proofs.Ytpifdeglhalefaa
namespace Go.Proofs.Ytpifdeglhalefaa
open Go.RowKit
abbrev S0 : Nat → Prop := fun _ => False
/-- Blocks of cells that are not of S lie as they lay. -/
structure Kc (S : Nat → Prop) (A B : World) : Prop where
  size : A.heap.size ≤ B.heap.size
  keep : ∀ k cs t f, A.heap[k]? = some (.cells cs t f) → ¬ S k → B.heap[k]? = some (.cells cs t f)
theorem Kc.refl (S : Nat → Prop) (A : World) : Kc S A A := ⟨Nat.le_refl _, fun _ _ _ _ h _ => h⟩
theorem Kc.trans {S : Nat → Prop} {A B C : World} (h : Kc S A B) (k : Kc S B C) : Kc S A C := ⟨Nat.le_trans h.size k.size, fun i cs t f hi hs => k.keep i cs t f (h.keep i cs t f hi hs) hs⟩
theorem Kc.of_ext {S : Nat → Prop} {A B : World} (h : Ext A B) : Kc S A B := ⟨h.size, fun _ _ _ _ hi _ => h.heap hi⟩
theorem Kc.ext {S : Nat → Prop} {A B C : World} (h : Kc S A B) (k : Ext B C) : Kc S A C := h.trans (.of_ext k)
theorem Kc.of_chg {S : Nat → Prop} {A B : World} (h : Chg S A B) : Kc S A B := ⟨h.size, fun _ _ _ _ hi hs => h.heap hi hs⟩
theorem Kc.put (S : Nat → Prop) (W : World) (l : Nat) (o o' : Obj) (h : W.heap[l]? = some o) (ho : o.isCells = false) : Kc S W (W.putObj l o') :=
  ⟨(grownBy_putObj' W l o').size, fun k cs t f hk _ => by
    have hne : k ≠ l := by rintro rfl; rw [h] at hk; cases hk; cases ho
    exact (World.putObj_heap_other hne).trans hk⟩
theorem Kc.blk {S : Nat → Prop} {A B : World} (h : Kc S A B) {b : Nat} {cs : Array Value} (hb : Blk A b cs) (hs : ¬ S b) : Blk B b cs := let ⟨t, ht⟩ := hb; ⟨t, h.keep _ _ _ _ ht hs⟩
theorem Ext.of_grown {w w' : World} (h : w.grownBy w' none) : Ext w w' := Chg.to_ext (Ext.refl w) (grown_chg h) (fun i e => by cases e)
theorem Ext.to_grown {w w' : World} (h : Ext w w') : w.grownBy w' none := ⟨Below.os h, Below.tape h, Below.output h, Below.size h, fun k hk _ => Below.block h k hk⟩
/-- A slice of integers that may be read, outside S. -/
def RdI (S : Nat → Prop) (W : World) (v : Value) (xs : List Int) : Prop :=
  (v = .slice none 0 0 ∧ xs = []) ∨ ∃ b o c cs t f, v = .slice (some ⟨b, o, none⟩) xs.length c ∧ xs.length ≤ c ∧ c ≤ maxLen ∧ ¬ S b ∧ W.heap[b]? = some (.cells cs t f) ∧ ∀ i, (h : i < xs.length) → cs[o + i]? = some (.int .i64 xs[i])
theorem RdI.keep {S : Nat → Prop} {A B : World} {v : Value} {xs : List Int} (h : RdI S A v xs) (k : Kc S A B) : RdI S B v xs := by
  rcases h with h | ⟨b, o, c, cs, t, f, h1, h2, h3, h4, h5, h6⟩
  · exact .inl h
  · exact .inr ⟨b, o, c, cs, t, f, h1, h2, h3, h4, k.keep _ _ _ _ h5 h4, h6⟩
theorem RdI.cells {S : Nat → Prop} {W : World} {v : Value} {xs : List Int} (h : RdI S W v xs) : ∃ a c, v = .slice a xs.length c ∧ CellsAt W .i64 a xs ∧ xs.length ≤ c ∧ c ≤ maxLen ∧ (a = none → xs.length = 0 ∧ c = 0) := by
  rcases h with ⟨rfl, rfl⟩ | ⟨b, o, c, cs, t, f, h1, h2, h3, h4, h5, h6⟩
  · exact ⟨none, 0, rfl, CellsAt.nil _ _ _, Nat.le_refl _, by decide, fun _ => ⟨rfl, rfl⟩⟩
  · exact ⟨_, c, h1, fun i hi => ⟨b, o, rfl, by unfold World.cell?; simp only [h5]; exact h6 i hi⟩, h2, h3, fun h => by cases h⟩
theorem RdI.addr {S : Nat → Prop} {W : World} {a : Option Addr} {n c : Nat} {xs : List Int} (h : RdI S W (.slice a n c) xs) : ∀ ad, a = some ad → ∃ b o, ad = ⟨b, o, none⟩ := by
  intro ad ha
  subst ha
  rcases h with ⟨h1, h2⟩ | ⟨b, o, c, cs, t, f, h1, -⟩
  · cases h1
  · cases h1; exact ⟨b, o, rfl⟩
theorem RdI.head {S : Nat → Prop} {W : World} {v : Value} {xs : List Int} (h : RdI S W v xs) (h0 : 0 < xs.length) : ∃ b o c, v = .slice (some ⟨b, o, none⟩) xs.length c ∧ CellsAt W .i64 (some ⟨b, o, none⟩) xs ∧ xs.length ≤ c ∧ c ≤ maxLen := by
  rcases h with ⟨rfl, rfl⟩ | ⟨b, o, c, cs, t, f, h1, h2, h3, h4, h5, h6⟩
  · simp at h0
  · exact ⟨b, o, c, h1, fun i hi => ⟨b, o, rfl, by unfold World.cell?; simp only [h5]; exact h6 i hi⟩, h2, h3⟩
theorem RdI.of_own {S : Nat → Prop} {W : World} {base : Nat} {v : Value} {xs : List Int} (h : OwnI W base v xs) (hS : ∀ k, base ≤ k → ¬ S k) : RdI S W v xs := by
  obtain ⟨h1, ⟨e, h2⟩ | ⟨g, cap, cur, e, h2, h3, h4, h5, h6, h7⟩⟩ := h
  · exact .inl ⟨e, List.length_eq_zero_iff.1 h2⟩
  · refine .inr ⟨g, 0, cap, cur, _, _, e, h4, h5, hS g h2, h3, fun i hi => ?_⟩
    have : (cur.toList.take (xs.length * 1))[i]? = some (.int .i64 xs[i]) := by rw [h7]; simp [hi]
    rw [List.getElem?_take_of_lt (by omega)] at this
    simpa using this
theorem RdI.ext {w w' : World} {v : Value} {xs : List Int} (h : RdI S0 w v xs) (hx : Ext w w') : RdI S0 w' v xs := h.keep (Kc.of_ext hx)
theorem rd_cells {W : World} {a : Option Addr} {n c : Nat} {xs : List Int} (h : RdI S0 W (.slice a n c) xs) : n = xs.length ∧ CellsAt W .i64 a xs := by
  obtain ⟨_, _, e, h1, -⟩ := h.cells
  cases e
  exact ⟨rfl, h1⟩
end Go.Proofs.Ytpifdeglhalefaa
