/-
  Inside the wide fence: a loop over an iterator, whose body may leave it. No program here.
-/
import Derived.Test.YtmopadnkjlodnaaRfv
import Derived.Test.YtmopadnkjlodnaaKcp
import Derived.RangeFuncWrites
namespace Go.Proofs.Ytmopadnkjlodnaa
open Go.RowKit
/-- Abides the turn of whatever block of some few. -/
def AbC {β : Type} (B c : Nat) (J : β → World → Prop) : Prop := ∀ s A A' row, J s A → A.grownBy A' row → (∀ r, row = some r → B ≤ r ∧ r < B + c) → J s A'
theorem AbC.put {β : Type} {B c : Nat} {J : β → World → Prop} (h : AbC B c J) {s : β} {W : World} {l : Nat} (o' : Obj) (hs : J s W) (hl : B ≤ l ∧ l < B + c) : J s (W.putObj l o') := h s W _ (some l) hs (grownBy_putObj' W l o') (by rintro r ⟨⟩; exact hl)
theorem AbC.alloc {β : Type} {B c : Nat} {J : β → World → Prop} (h : AbC B c J) {s : β} {W : World} (o : Obj) (hs : J s W) : J s (W.alloc o) := h s W _ none hs ((Ext.refl W).alloc o).to_grown (by rintro r ⟨⟩)
/-- An iterator that lays facts (V) of what it hands on, round by round; a round may say 'no more'. It turns, of blocks that it did not lay ahead of its first round, none: of its own, c of them. -/
def SeqW {α : Type} (n : Nat) (P : Program) (g : Nat) (fb lb : Array Value) (encs : α → Array Value) (V : List α → α → World → Prop) (Kp : World → World → Prop) (S Sp : List α → Prop) (c : Nat) (w : World) : Prop :=
  ∀ (l : Nat) (J Jx : List α → World → Prop) (W : World), Ext w W → W.heap.size = w.heap.size + 2 → AbC W.heap.size c J → AbC W.heap.size c Jx →
    (∀ pre x W1, J pre W1 → V pre x W1 → YieldAt Fence.wide (n - 1) P l (encs x) W1 fun e W' => (e = .returned (.bool true) ∧ J (pre ++ [x]) W' ∧ Kp W1 W') ∨ (e = .returned (.bool false) ∧ Jx (pre ++ [x]) W')) → J [] W →
    CallsIn Fence.wide n P g (fb ++ #[.func (.yield l) #[] #[]] ++ lb) W fun e W' => (∃ v, e = .returned v) ∧ ((∃ xs, S xs ∧ J xs W') ∨ ∃ pre, Sp pre ∧ Jx pre W')
/-- A loop over it; its body may leave it. -/
theorem wpIn_rangeFunc_w {α : Type} {n : Nat} {P : Program} {g : Operand} {ps : Array Tmp} {assign body : Code} {Q : Exit → Act → World → Prop} {a : Act} {w : World} (h1 : 1 ≤ n) {gf : Nat} {fb lb : Array Value} (hg : a.eval g = .func (.func gf) fb lb) (eg : ∀ args w, (callFunc gf args).run P w = .ok (.enter gf args) w)
    {encs : α → Array Value} {V : List α → α → World → Prop} {Kp : World → World → Prop} {S Sp : List α → Prop} {m : Nat} (hseq : SeqW (n - 1) P gf fb lb encs V Kp S Sp m w) (hKt : ∀ {A B C : World}, Kp A B → Kp B C → Kp A C)
    (hKb : ∀ (W : World) (l : Nat) (o o' : Obj), w.heap.size ≤ l → W.heap[l]? = some o → o.isCells = false → o.isWalk = false → Kp W (W.putObj l o')) (hps : ∀ x, (encs x).size = ps.size)
    (I : List α → World → Prop) (Ix : Code → List α → World → Prop) (hI : AbC w.heap.size (2 + m) I) (hIx : ∀ c, AbC w.heap.size (2 + m) (Ix c)) (hV : ∀ pre x, AbC w.heap.size (2 + m) (fun (_ : Unit) W => V pre x W)) (h0 : I [] w) (Ax : α → Act → World → Prop) (hAx : ∀ x a', AbC w.heap.size (2 + m) (fun (_ : Unit) W => Ax x a' W))
    (hassign : ∀ (l : Nat) (pre : List α) (x : α) (W : World) (K : Act → World → Prop), I pre W → V pre x W → (∀ a' W', KeepsFrom w.heap.size W W' → Kp W W' → I pre W' → V pre x W' → Ax x a' W' → K a' W') →
      assign.wpIn (Fence.wide.inRound l) (n - 1 - 1) P (Exit.then K (fun _ _ _ => False)) { tmps := (ps.zip (encs x)).foldl (fun t (p, v) => t.setIfInBounds p v) a.tmps, defers := [] } W)
    (hbody : ∀ (l : Nat) (pre : List α) (x : α) (a' : Act) (W : World), I pre W → V pre x W → Ax x a' W → body.wpIn (Fence.wide.inRound l) (n - 1 - 1) P (ownPostG w.heap.size Kp I Ix (pre ++ [x]) W) a' W)
    (hdone : ∀ (D : Nat) (xs : List α) (W : World), w.heap.size ≤ D → S xs → I xs W → W.heap[D]? = some (.deferred (some [])) → Q .normal { a with defers := { target := .collected D, args := #[] } :: a.defers } W)
    (hstop : ∀ (D : Nat) (c : Code) (pre : List α) (W : World), w.heap.size ≤ D → Sp pre → Ix c pre W → W.heap[D]? = some (.deferred (some [])) → c.wpIn Fence.wide n P Q { a with defers := { target := .collected D, args := #[] } :: a.defers } W) :
    (Code.rangeFunc g ps assign body).wpIn Fence.wide n P Q a w := by
  refine wpIn_rangeFunc fun fn hfn => ?_
  obtain ⟨rec, hrec⟩ : ∃ rec : LoopState → Option Code → Loop, rec = fun st pe => { state := st, pending := pe, fn, tmps := a.tmps, params := ps, assign, body, defers := w.heap.size } := ⟨_, rfl⟩
  obtain ⟨W1, hW1⟩ : ∃ W1, (w.alloc (.deferred (some []))).alloc (.loop (rec .ready none)) = W1 := ⟨_, rfl⟩
  have hx1 : Ext w W1 := by rw [← hW1]; exact ((Ext.refl w).alloc _).alloc _
  have hs1 : W1.heap.size = w.heap.size + 1 + 1 := by rw [← hW1]; simp
  have hL1 : W1.heap[w.heap.size + 1]? = some (.loop (rec .ready none)) := by
    rw [← hW1]; have := World.alloc_heap_new (w.alloc (.deferred (some []))) (.loop (rec .ready none)); rwa [World.size_alloc] at this
  have hD1 : W1.heap[w.heap.size]? = some (.deferred (some [])) := by
    rw [← hW1]; exact (Below.heap_alloc _ _ _ (by simp)).trans (World.alloc_heap_new w _)
  have hI1 : I [] W1 := by rw [← hW1]; exact hI.alloc _ (hI.alloc _ h0)
  -- what stands between two rounds
  obtain ⟨J, hJ⟩ : ∃ J : List α → World → Prop, J = fun pre W => I pre W ∧ W.heap[w.heap.size + 1]? = some (.loop (rec .ready none)) ∧ W.heap[w.heap.size]? = some (.deferred (some [])) := ⟨_, rfl⟩
  have hJa : AbC W1.heap.size m J := by
    rw [hJ]
    rintro s A C row ⟨ha, hb, hc⟩ hg' hr
    have hr' : ∀ r, row = some r → w.heap.size ≤ r ∧ r < w.heap.size + (2 + m) := fun r e => by
      have := hr r e
      omega
    have kp : ∀ {k : Nat} {o : Obj}, k < W1.heap.size → A.heap[k]? = some o → C.heap[k]? = some o := fun hk ho => (hg'.block _ (Array.getElem?_eq_some_iff.1 ho).1 (fun e => by have := hr _ e.symm; omega)).trans ho
    exact ⟨hI s A C row ha hg' (hr'), kp (by omega) hb, kp (by omega) hc⟩
  obtain ⟨Jx, hJx⟩ : ∃ Jx : List α → World → Prop, Jx = fun pre W => ∃ c, Ix c pre W ∧ W.heap[w.heap.size + 1]? = some (.loop (rec .done (some c))) ∧ W.heap[w.heap.size]? = some (.deferred (some [])) := ⟨_, rfl⟩
  have hJxa : AbC W1.heap.size m Jx := by
    rw [hJx]
    rintro s A C row ⟨c, ha, hb, hc⟩ hg' hr
    have hr' : ∀ r, row = some r → w.heap.size ≤ r ∧ r < w.heap.size + (2 + m) := fun r e => by
      have := hr r e
      omega
    have kp : ∀ {k : Nat} {o : Obj}, k < W1.heap.size → A.heap[k]? = some o → C.heap[k]? = some o := fun hk ho => (hg'.block _ (Array.getElem?_eq_some_iff.1 ho).1 (fun e => by have := hr _ e.symm; omega)).trans ho
    exact ⟨c, hIx c s A C row ha hg' hr', kp (by omega) hb, kp (by omega) hc⟩
  refine ⟨w.heap.size + 1, [{ target := .collected w.heap.size, args := #[] }], W1, { target := .fn (.func gf) lb, args := fb ++ #[.func (.yield (w.heap.size + 1)) #[] #[]] }, W1, gf, fb ++ #[.func (.yield (w.heap.size + 1)) #[] #[]] ++ lb, W1, ?_, ?_, fun _ _ => trivial, ?_, fun _ => h1, ?_⟩
  · change Sem.run P (Instr.enterLoop fn a.tmps ps assign body none) w = _
    rw [← hW1, hrec]; exact run_enterLoop_outer _ _ _ _ _
  · simp only [resolve, hg]
    simp [go_sem]
  · simp [invoke, go_sem, eg]
  refine (hseq (w.heap.size + 1) J Jx W1 hx1 (by omega) hJa hJxa ?_ (by rw [hJ]; exact ⟨hI1, hL1, hD1⟩)).mono ?_
  · intro pre x W hj hv
    rw [hJ] at hj
    obtain ⟨hi, hl, hk⟩ := hj
    have hy := run_yield (P := P) (args := encs x) hl (by rw [hrec]; exact hps x)
    rw [hrec] at hy
    refine ⟨fn, _, assign, body, hy, roundIn_of_wpIn hfn (hassign _ pre x W _ hi hv ?_)⟩
    clear hy
    intro a' Wa hka hpa hia hva hax
    replace hl := hka.same _ _ (by omega) hl rfl
    replace hk := hka.same _ _ (Nat.le_refl _) hk rfl
    have hlt : w.heap.size + 1 < Wa.heap.size := (Array.getElem?_eq_some_iff.1 hl).1
    refine ⟨_, run_beginRound hl (by rw [hrec]), ?_⟩
    obtain ⟨Wb, hWb⟩ : ∃ Wb, Wa.putObj (w.heap.size + 1) (.loop { rec .ready none with state := .busy }) = Wb := ⟨_, rfl⟩
    have hl2 : Wb.heap[w.heap.size + 1]? = some (.loop { rec .ready none with state := .busy }) := by rw [← hWb]; exact World.putObj_heap_same hlt
    have hk2 : Wb.heap[w.heap.size]? = some (.deferred (some [])) := by rw [← hWb]; exact (World.putObj_heap_other (by omega)).trans hk
    have hp2 : Kp Wa Wb := by rw [← hWb]; exact hKb _ _ _ _ (by omega) hl rfl rfl
    have hi2 : I pre Wb := by rw [← hWb]; exact hI.put _ hia (by omega)
    have hv2 : V pre x Wb := by rw [← hWb]; exact (hV pre x).put (s := ()) _ hva (by omega)
    have ha2 : Ax x a' Wb := by rw [← hWb]; exact (hAx x a').put (s := ()) _ hax (by omega)
    rw [hWb]
    refine wpIn_mono (hbody _ pre x a' Wb hi2 hv2 ha2) ?_
    have fin : ∀ (jump : Option Code) (W3 : World), KeepsFrom w.heap.size Wb W3 → (Instr.endRound (w.heap.size + 1) jump).run P W3 = .ok (.bool jump.isNone) (W3.putObj (w.heap.size + 1) (.loop (rec (if jump.isNone then .ready else .done) jump))) ∧
        W3.heap[w.heap.size + 1]? = some (.loop { rec .ready none with state := .busy }) ∧
        (W3.putObj (w.heap.size + 1) (.loop (rec (if jump.isNone then .ready else .done) jump))).heap[w.heap.size + 1]? = some (.loop (rec (if jump.isNone then .ready else .done) jump)) ∧
        (W3.putObj (w.heap.size + 1) (.loop (rec (if jump.isNone then .ready else .done) jump))).heap[w.heap.size]? = some (.deferred (some [])) := fun jump W3 hk3 => by
      have hl3 := hk3.same _ _ (by omega) hl2 rfl
      have := run_endRound (P := P) jump hl3
      rw [hrec] at this ⊢
      exact ⟨this, by rw [hrec] at hl3; exact hl3, World.putObj_heap_same (Array.getElem?_eq_some_iff.1 hl3).1, (World.putObj_heap_other (by omega)).trans (hk3.same _ _ (Nat.le_refl _) hk2 rfl)⟩
    rintro e a3 W3 hp
    rw [hJ, hJx]
    cases e with
    | normal =>
      obtain ⟨hk3, hp3, hi3⟩ := hp
      obtain ⟨hr, hl3, hl4, hk4⟩ := fin none W3 hk3
      exact ⟨_, _, hr, .inl ⟨rfl, ⟨hI.put _ hi3 (by omega), hl4, hk4⟩, hKt hpa (hKt hp2 (hKt hp3 (hKb _ _ _ _ (by omega) hl3 rfl rfl)))⟩⟩
    | ret =>
      obtain ⟨hk3, hi3⟩ := hp
      obtain ⟨hr, hl3, hl4, hk4⟩ := fin (some .ret) W3 hk3
      exact ⟨_, _, hr, .inr ⟨rfl, .ret, (hIx _).put _ hi3 (by omega), hl4, hk4⟩⟩
    | exit id =>
      obtain ⟨hk3, hi3⟩ := hp
      obtain ⟨hr, hl3, hl4, hk4⟩ := fin (some (.exit id)) W3 hk3
      exact ⟨_, _, hr, .inr ⟨rfl, .exit id, (hIx _).put _ hi3 (by omega), hl4, hk4⟩⟩
    | goto t =>
      obtain ⟨hk3, hi3⟩ := hp
      obtain ⟨hr, hl3, hl4, hk4⟩ := fin (some (.goto t)) W3 hk3
      exact ⟨_, _, hr, .inr ⟨rfl, .goto t, (hIx _).put _ hi3 (by omega), hl4, hk4⟩⟩
    | panic ch => exact hp.elim
    | outgrown => exact hp.elim
  · rintro e W2 ⟨⟨v, rfl⟩, (⟨xs, hS, hj⟩ | ⟨pre, hSp, hj⟩)⟩
    · rw [hJ] at hj
      obtain ⟨hi, hl, hk⟩ := hj
      exact ⟨none, _, by have := run_endLoop (P := P) hl (by rw [hrec]; simp); rw [hrec] at this; exact this, hdone _ xs _ (Nat.le_refl _) hS (hI.put _ hi (by omega)) ((World.putObj_heap_other (by omega)).trans hk)⟩
    · rw [hJx] at hj
      obtain ⟨c, hi, hl, hk⟩ := hj
      exact ⟨some c, _, by have := run_endLoop (P := P) hl (by rw [hrec]; simp); rw [hrec] at this; exact this, hstop _ c pre _ (Nat.le_refl _) hSp ((hIx c).put _ hi (by omega)) ((World.putObj_heap_other (by omega)).trans hk)⟩
end Go.Proofs.Ytmopadnkjlodnaa
