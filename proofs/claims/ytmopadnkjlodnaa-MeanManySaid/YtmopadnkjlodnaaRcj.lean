/-
  Returns of a function that has ranged over functions, any number of times. No program here.
-/
import Derived.Test.YtmopadnkjlodnaaRfw
import Derived.Test.YtmopadnkjlodnaaSen
import Derived.Test.YtmopadnkjlodnaaMfa
import Derived.Maps.OwnIn
import Derived.Sort.MapsRangeIn
import Derived.RangeFuncLeaves
namespace Go.Proofs.Ytmopadnkjlodnaa
open Go.RowKit Go.BigFrame
theorem wpIn_lat {n : Nat} {P : Program} {id : Nat} {Q : Exit → Act → World → Prop} {a0 : Act} {w : World} {l : List Oper} (hm : P.follows .mixedOrders = true)
    (X : Nat → Nat → Prop) (NQ : Nat → Bool) (R : Nat → Value → Prop) (G : (Nat → Bool) → (Nat → Value) → World → Prop)
    (hg : goodReg l.toArray a0.tmps.size = true) (hNQ : ∀ k, NQ k = true → k < l.length) (hG : ∀ L L' u w, (∀ k, NQ k = true → L' k = L k) → G L u w → G L' u w) (hGs : ∀ L u, Stays (G L u))
    (u0 : Nat → Value) (hu0 : ∀ k, NQ k = true → R k (u0 k)) (hG0 : G (fun _ => false) u0 w.drew)
    (h : ∀ T, Stays T → Nonempty (LatT X w T) → ∀ u, (∀ k, NQ k = true → R k (u k)) → Lx P l.toArray (fun w' => ∃ x : Lat X w, w' = x.world) NQ R G (fun w' => ∃ x : LatT X w T, w' = x.toLat.world) u (fun a => ∀ x : Lat X w, G (fun _ => true) u x.world → Q .normal a x.world) 0 l a0) : (Code.region id l.toArray true).wpIn Fence.wide n P Q a0 w := by
  refine wpIn_region_ghost hm (fun w' => ∃ x : Lat X w, w' = x.world) NQ R G hg hNQ hG hGs ⟨Lat.of_ext X (Ext.refl w).drew, rfl⟩ u0 hu0 hG0 fun T hT hE u hu => ?_
  have e : (fun w' => (∃ x : Lat X w, w' = x.world) ∧ T w') = fun w' => ∃ x : LatT X w T, w' = x.toLat.world := funext fun w' => propext ⟨fun ⟨⟨x, hx⟩, ht⟩ => ⟨⟨x, hx ▸ ht⟩, hx⟩, fun ⟨x, hx⟩ => ⟨⟨x.toLat, hx⟩, hx ▸ x.stay⟩⟩
  rw [e]
  have e2 : (fun a => ∀ w', (∃ x : Lat X w, w' = x.world) → G (fun _ => true) u w' → Q .normal a w') = fun a => ∀ x : Lat X w, G (fun _ => true) u x.world → Q .normal a x.world :=
    funext fun a => propext ⟨fun h x hx => h _ ⟨x, rfl⟩ hx, fun h w' ⟨x, hx⟩ hg => by subst hx; exact h x hg⟩
  rw [e2]
  exact h T hT (let ⟨w', ⟨x, hx⟩, ht⟩ := hE; ⟨⟨x, hx ▸ ht⟩⟩) u hu
theorem wpIn_lat_r {n : Nat} {P : Program} {id : Nat} {Q : Exit → Act → World → Prop} {a0 : Act} {w : World} {l : List Oper} (lp : Nat) (hnd : noDefer l.toArray = true) (hm : P.follows .mixedOrders = true)
    (X : Nat → Nat → Prop) (NQ : Nat → Bool) (R : Nat → Value → Prop) (G : (Nat → Bool) → (Nat → Value) → World → Prop)
    (hg : goodReg l.toArray a0.tmps.size = true) (hNQ : ∀ k, NQ k = true → k < l.length) (hG : ∀ L L' u w, (∀ k, NQ k = true → L' k = L k) → G L u w → G L' u w) (hGs : ∀ L u, Stays (G L u))
    (u0 : Nat → Value) (hu0 : ∀ k, NQ k = true → R k (u0 k)) (hG0 : G (fun _ => false) u0 w.drew)
    (h : ∀ T, Stays T → Nonempty (LatT X w T) → ∀ u, (∀ k, NQ k = true → R k (u k)) → Lx P l.toArray (fun w' => ∃ x : Lat X w, w' = x.world) NQ R G (fun w' => ∃ x : LatT X w T, w' = x.toLat.world) u (fun a => ∀ x : Lat X w, G (fun _ => true) u x.world → Q .normal a x.world) 0 l a0) : (Code.region id l.toArray true).wpIn (Fence.wide.inRound lp) n P Q a0 w := by
  refine wpIn_region_ghost_r lp hnd hm (fun w' => ∃ x : Lat X w, w' = x.world) NQ R G hg hNQ hG hGs ⟨Lat.of_ext X (Ext.refl w).drew, rfl⟩ u0 hu0 hG0 fun T hT hE u hu => ?_
  have e : (fun w' => (∃ x : Lat X w, w' = x.world) ∧ T w') = fun w' => ∃ x : LatT X w T, w' = x.toLat.world := funext fun w' => propext ⟨fun ⟨⟨x, hx⟩, ht⟩ => ⟨⟨x, hx ▸ ht⟩, hx⟩, fun ⟨x, hx⟩ => ⟨⟨x.toLat, hx⟩, hx ▸ x.stay⟩⟩
  rw [e]
  have e2 : (fun a => ∀ w', (∃ x : Lat X w, w' = x.world) → G (fun _ => true) u w' → Q .normal a w') = fun a => ∀ x : Lat X w, G (fun _ => true) u x.world → Q .normal a x.world :=
    funext fun a => propext ⟨fun h x hx => h _ ⟨x, rfl⟩ hx, fun h w' ⟨x, hx⟩ hg => by subst hx; exact h x hg⟩
  rw [e2]
  exact h T hT (let ⟨w', ⟨x, hx⟩, ht⟩ := hE; ⟨⟨x, hx ▸ ht⟩⟩) u hu
theorem wpIn_calls {γ : Type} {n : Nat} {P : Program} {id : Nat} {Q : Exit → Act → World → Prop} {a0 : Act} {w : World} {l : List Oper} (hm : P.follows .mixedOrders = true) (ks : List Lik) (lo : Nat) (m : γ → Nat) (rs : γ → (Nat → Bool) → (Nat → Value) → List Res) (c0 : γ)
    (hg : goodReg l.toArray a0.tmps.size = true) (hlen : ks.length ≤ l.length) (hrs : ∀ c L L' u, (∀ k, (lAt ks k).loud = true → L' k = L k) → rs c L' u = rs c L u) (hm0 : m c0 ≤ w.heap.size) (h0 : ∀ u, Frm lo (rs c0 (fun _ => false) u) w)
    (h : ∀ T, Stays T → Nonempty (LatT (fun b _ => lo ≤ b) w T) → ∀ u, (∀ k, (lAt ks k).loud = true → (lAt ks k).p (u k)) → Lx P l.toArray (fun w' => ∃ x : Lat (fun b _ => lo ≤ b) w, w' = x.world) (fun k => (lAt ks k).loud) (fun k => (lAt ks k).p) (fun L u w => FrmE lo m (fun c => rs c L u) w)
      (fun w' => ∃ x : LatT (fun b _ => lo ≤ b) w T, w' = x.toLat.world) u (fun a => ∀ x : Lat (fun b _ => lo ≤ b) w, FrmE lo m (fun c => rs c (fun _ => true) u) x.world → Q .normal a x.world) 0 l a0) : (Code.region id l.toArray true).wpIn Fence.wide n P Q a0 w :=
  wpIn_lat hm (fun b _ => lo ≤ b) (fun k => (lAt ks k).loud) (fun k => (lAt ks k).p) (fun L u w => FrmE lo m (fun c => rs c L u) w) hg (fun k hk => Nat.lt_of_lt_of_le (lAt_lt hk) hlen) (fun L L' u w hh ⟨c, h1, h2⟩ => ⟨c, h1, by show Frm lo (rs c L' u) w; rw [hrs c L L' u hh]; exact h2⟩) (fun _ _ _ _ hs hx => hs.ext hx)
    (fun k => (lAt ks k).w) (fun k _ => (lAt ks k).ok) (FrmE.ext ⟨c0, hm0, h0 _⟩ (Ext.refl w).drew) h
theorem wpIn_calls_r {γ : Type} {n : Nat} {P : Program} {id : Nat} {Q : Exit → Act → World → Prop} {a0 : Act} {w : World} {l : List Oper} (lp : Nat) (hnd : noDefer l.toArray = true) (hm : P.follows .mixedOrders = true) (ks : List Lik) (lo : Nat) (m : γ → Nat) (rs : γ → (Nat → Bool) → (Nat → Value) → List Res) (c0 : γ)
    (hg : goodReg l.toArray a0.tmps.size = true) (hlen : ks.length ≤ l.length) (hrs : ∀ c L L' u, (∀ k, (lAt ks k).loud = true → L' k = L k) → rs c L' u = rs c L u) (hm0 : m c0 ≤ w.heap.size) (h0 : ∀ u, Frm lo (rs c0 (fun _ => false) u) w)
    (h : ∀ T, Stays T → Nonempty (LatT (fun b _ => lo ≤ b) w T) → ∀ u, (∀ k, (lAt ks k).loud = true → (lAt ks k).p (u k)) → Lx P l.toArray (fun w' => ∃ x : Lat (fun b _ => lo ≤ b) w, w' = x.world) (fun k => (lAt ks k).loud) (fun k => (lAt ks k).p) (fun L u w => FrmE lo m (fun c => rs c L u) w)
      (fun w' => ∃ x : LatT (fun b _ => lo ≤ b) w T, w' = x.toLat.world) u (fun a => ∀ x : Lat (fun b _ => lo ≤ b) w, FrmE lo m (fun c => rs c (fun _ => true) u) x.world → Q .normal a x.world) 0 l a0) : (Code.region id l.toArray true).wpIn (Fence.wide.inRound lp) n P Q a0 w :=
  wpIn_lat_r lp hnd hm (fun b _ => lo ≤ b) (fun k => (lAt ks k).loud) (fun k => (lAt ks k).p) (fun L u w => FrmE lo m (fun c => rs c L u) w) hg (fun k hk => Nat.lt_of_lt_of_le (lAt_lt hk) hlen) (fun L L' u w hh ⟨c, h1, h2⟩ => ⟨c, h1, by show Frm lo (rs c L' u) w; rw [hrs c L L' u hh]; exact h2⟩) (fun _ _ _ _ hs hx => hs.ext hx)
    (fun k => (lAt ks k).w) (fun k _ => (lAt ks k).ok) (FrmE.ext ⟨c0, hm0, h0 _⟩ (Ext.refl w).drew) h
/-- A region that draws its order, inside the fence: it only reads, or its calls only make memory. -/
theorem wpIn_region_lat {n : Nat} {P : Program} {id : Nat} {Q : Exit → Act → World → Prop} {a : Act} {w : World} {l : List Oper} (hm : P.follows .mixedOrders = true) (hg : goodReg l.toArray a.tmps.size = true)
    (h : ∀ T, Stays T → Nonempty (LatT NoX w T) → wpQuiet P l.toArray (fun w' => ∃ x : LatT NoX w T, w' = x.toLat.world) (fun a' => ∀ w', Ext w w' → Q .normal a' w') l a) : (Code.region id l.toArray true).wpIn Fence.wide n P Q a w := by
  refine wpIn_region_ghost hm (fun w' => ∃ x : Lat NoX w, w' = x.world) (fun _ => false) (fun _ _ => True) (fun _ _ _ => True) hg (fun k h => by cases h) (fun _ _ _ _ _ h => h) (fun _ _ _ _ _ _ => trivial) ⟨Lat.of_ext NoX (Ext.refl w).drew, rfl⟩ (fun _ => undef) (fun k h => by cases h) trivial fun T hT hE u hu => ?_
  have e : (fun w' => (∃ x : Lat NoX w, w' = x.world) ∧ T w') = fun w' => ∃ x : LatT NoX w T, w' = x.toLat.world := funext fun w' => propext ⟨fun ⟨⟨x, hx⟩, ht⟩ => ⟨⟨x, hx ▸ ht⟩, hx⟩, fun ⟨x, hx⟩ => ⟨⟨x.toLat, hx⟩, hx ▸ x.stay⟩⟩
  rw [e]
  have := lx_quiet (P := P) (ops := l.toArray) (C := fun w' => ∃ x : Lat NoX w, w' = x.world) (D := fun w' => ∃ x : LatT NoX w T, w' = x.toLat.world) (NQ := fun _ => false) (R := fun _ _ => True) (G := fun _ _ _ => True) (u := u)
    (Fin := fun a => ∀ w', (∃ x : Lat NoX w, w' = x.world) → True → Q .normal a w') l (i := 0) (rest := []) (a := a) (fun _ _ => rfl) (wpQuiet_mono' (fun a' ha => ?_) l a (h T hT (let ⟨_, ⟨x, hx⟩, ht⟩ := hE; ⟨⟨x, hx ▸ ht⟩⟩)))
  · rwa [List.append_nil] at this
  · show Lx _ _ _ _ _ _ _ _ _ _ [] a'
    refine lx_nil ?_
    rintro w' ⟨x, rfl⟩ _
    exact ha _ (Chg.to_ext (Ext.refl w) (Lat.chg x) (by rintro i ⟨o, h⟩; exact h.elim))
section
variable {κ ν : Type} {P : Program} {T : TypeId} {ek : κ → Value} {ev : ν → Value} {G : World → Prop} {F : Fence} {nF : Nat}
theorem wpIn_nextL {w : World} {ops : Array Oper} {rest : List Oper} {o : Oper} {a : Act} {Q : Exit → Act → World → Prop} (hg : o.guard = none) (it : Operand) (hop : o.op = Op.next it false) (r b : Nat) (left : List (κ × ν)) (hit : a.eval it = .pointer (some ⟨r, 0, none⟩)) (h : IterL ek ev w r b left)
    (hDone : left = [] → wpListIn F nF P ops Q rest (a.put o.dst (.tuple #[.bool false])) w)
    (hMore : ∀ (x : κ) (y : ν) pre post w', left = pre ++ (x, y) :: post → IterL ek ev w' r b (pre ++ post) → Chg (· = r) w w' → (Instr.entry (.pointer (some ⟨r, 0, none⟩))).run P w' = .ok (.tuple #[ek x, ev y]) w' → wpListIn F nF P ops Q rest (a.put o.dst (.tuple #[.bool true, ek x, ev y])) w') : wpListIn F nF P ops Q (o :: rest) a w := by
  refine wpListIn_plain hg fun K hK => ?_
  unfold Oper.wpIn
  refine ⟨by simp [Oper.about, hop], ?_⟩
  rw [Oper.semAt_plain F _ _ (by rw [hop]; intro c hc'; cases hc')]
  rcases run_nextL h o.type with ⟨h0, hrun⟩ | ⟨pre, x, post, w', h1, hrun, h2, h3, h4⟩
  · simp [execOp, hop, hit, Result.andThen]
    rw [hrun]
    exact hK _ _ (hDone h0)
  · simp [execOp, hop, hit, Result.andThen]
    rw [hrun]
    exact hK _ _ (hMore x.1 x.2 pre post w' h1 h2 h3 h4)
theorem wpIn_putL [DecidableEq κ] (KL : KeyL P T ek G) {t e : TypeId} (ht : P.underlying t = some (.map T e)) {w : World} {ops : Array Oper} {rest : List Oper} {o : Oper} {a : Act} {Q : Exit → Act → World → Prop} (hg : o.guard = none) (m x v : Operand) (hop : o.op = Op.mapUpdate t m x v) (b : Nat) (l : List (κ × ν)) (k : κ) (y : ν)
    (hm : a.eval m = .map (some b)) (h : MapL ek ev w b l) (hG : G w) (hx : a.eval x = ek k) (hv : a.eval v = ev y) (hK' : ∀ w', MapL ek ev w' b (putL l k y) → Chg (· = b) w w' → wpListIn F nF P ops Q rest (a.put o.dst undef) w') : wpListIn F nF P ops Q (o :: rest) a w := by
  refine wpListIn_plain hg fun K hK => ?_
  obtain ⟨w', hrun, h1, h2⟩ := run_put KL ht h hG k y
  unfold Oper.wpIn
  refine ⟨by simp [Oper.about, hop], ?_⟩
  rw [Oper.semAt_plain F _ _ (by rw [hop]; intro c hc'; cases hc')]
  simp [execOp, hop, hm, hx, hv, hrun, Result.andThen]
  exact hK _ _ (hK' w' h1 h2)
end
end Go.Proofs.Ytmopadnkjlodnaa
namespace Go.Proofs.Ytmopadnkjlodnaa
open Go.RowKit Go.BigFrame
theorem Blk.at {w : World} {cs : Array Value} {t : TypeId} (n : Nat) (hn : n = w.heap.size) : Blk (w.alloc (.cells cs t)) n cs := by subst hn; exact Blk.new _ _ _
theorem Lat.ext0 {w : World} (x : Lat NoX w) : Ext w x.world := Chg.to_ext (Ext.refl w) (Lat.chg x) (by rintro i ⟨o, h⟩; exact h.elim)
/-- A return, with no deferred calls. -/
theorem ret_m {F : Fence} {n : Nat} {P : Program} {fn : Func} {R : Ending → World → Prop} {a : Act} {w : World} {v : Value} (hd : a.defers = []) (h : (results fn a.tmps).run P w = .ok v w) (hR : R (.returned v) w) : bodyPostM F n P fn R .ret a w := by
  show LeavesInM F n P fn a.tmps R a.defers .returning w
  rw [hd]
  exact ⟨v, h, hR⟩
theorem cell_put {W : World} {a : Addr} {v : Value} (h : W.cell? a = some v) {D : Nat} {o : Obj} (hK : W.heap[D]? = some o) (ho : o.isCells = false) (o' : Obj) : (W.putObj D o').cell? a = some v :=
  cell_kept h (grownBy_putObj' W D o') (fun r e => by cases e; exact ⟨o, hK, ho⟩)
theorem chg_put {S : Nat → Prop} {w W : World} (h : Chg S w W) {D : Nat} (hD : w.heap.size ≤ D) (o : Obj) : Chg S w (W.putObj D o) :=
  let g := grownBy_putObj' W D o
  ⟨g.os.trans h.os, g.tape.trans h.tape, g.output.trans h.output, Nat.le_trans h.size g.size, fun k hk hs => (World.putObj_heap_other (by omega)).trans (h.block k hk hs)⟩
/-- Some marks of loops over functions, from lo on, have been taken up. -/
inductive Shut (lo : Nat) (A : World) : World → Prop
  | refl : Shut lo A A
  | put {B : World} {D : Nat} (h : Shut lo A B) (hD : lo ≤ D) (hK : B.heap[D]? = some (.deferred (some []))) : Shut lo A (B.putObj D (.deferred none))
theorem Shut.heap {lo : Nat} {A B : World} (h : Shut lo A B) {k : Nat} {o : Obj} (hk : A.heap[k]? = some o) (ho : o ≠ .deferred (some [])) : B.heap[k]? = some o := by
  induction h with
  | refl => exact hk
  | put h hD hK ih => exact (World.putObj_heap_other (by rintro rfl; rw [ih] at hK; cases hK; exact ho rfl)).trans ih
theorem Shut.cell {lo : Nat} {A B : World} (h : Shut lo A B) {a : Addr} {v : Value} (hc : A.cell? a = some v) : B.cell? a = some v := by
  induction h with
  | refl => exact hc
  | put h hD hK ih => exact cell_put ih hK rfl _
theorem Shut.map {κ ν : Type} {ek : κ → Value} {ev : ν → Value} {lo : Nat} {A B : World} (h : Shut lo A B) {b : Nat} {l : List (κ × ν)} (hm : MapL ek ev A b l) : MapL ek ev B b l := by
  obtain ⟨es, c, h1, -⟩ := hm.ex
  exact hm.same ((h.heap h1 (by intro e; cases e)).trans h1.symm)
theorem Shut.chg {S : Nat → Prop} {lo : Nat} {w A B : World} (h : Shut lo A B) (hc : Chg S w A) (hl : w.heap.size ≤ lo) : Chg S w B := by
  induction h with
  | refl => exact hc
  | put h hD hK ih => exact chg_put ih (Nat.le_trans hl hD) _
def markOf (D : Nat) : Deferred := { target := .collected D, args := #[] }
/-- What is known of the marks of a frame. -/
structure Marks (lo : Nat) (w : World) (ds : List Nat) : Prop where
  nodup : ds.Nodup
  all : ∀ D ∈ ds, lo ≤ D ∧ w.heap[D]? = some (.deferred (some []))
theorem ret_mN {F : Fence} {n : Nat} {P : Program} {fn : Func} {R : Ending → World → Prop} {lo : Nat} {a : Act} {w : World} {v : Value} : ∀ (ds : List Nat) (W : World), Shut lo w W → Marks lo W ds →
    (∀ W', Shut lo w W' → (results fn a.tmps).run P W' = .ok v W' ∧ R (.returned v) W') → LeavesInM F n P fn a.tmps R (ds.map markOf) .returning W
  | [], W, hs, _, h => ⟨v, (h W hs).1, (h W hs).2⟩
  | D :: ds, W, hs, hm, h => by
    obtain ⟨h1, h2⟩ := hm.all D (by simp)
    have hn := List.nodup_cons.1 hm.nodup
    refine ⟨by simp, .inl ⟨_, _, rfl, run_takeDeferred h2, ret_mN ds _ (hs.put h1 h2) ⟨hn.2, fun E hE => ⟨(hm.all E (by simp [hE])).1, ?_⟩⟩ h⟩⟩
    exact (World.putObj_heap_other (by rintro rfl; exact hn.1 hE)).trans (hm.all E (by simp [hE])).2
theorem Marks.chg {S : Nat → Prop} {lo : Nat} {A B : World} {ds : List Nat} (h : Marks lo A ds) (hx : Chg S A B) (hs : ∀ D ∈ ds, ¬ S D) : Marks lo B ds := ⟨h.nodup, fun D hD => ⟨(h.all D hD).1, hx.heap (h.all D hD).2 (hs D hD)⟩⟩
theorem Marks.cons {lo : Nat} {w : World} {ds : List Nat} {D : Nat} (h : Marks lo w ds) (hn : D ∉ ds) (hl : lo ≤ D) (hk : w.heap[D]? = some (.deferred (some []))) : Marks lo w (D :: ds) := ⟨List.nodup_cons.2 ⟨hn, h.nodup⟩, fun E hE => by rcases List.mem_cons.1 hE with rfl | hE; exact ⟨hl, hk⟩; exact h.all E hE⟩
theorem Marks.nil (lo : Nat) (w : World) : Marks lo w [] := ⟨List.nodup_nil, by simp⟩
/-- Nothing is known of what a call left. -/
inductive Nop (v : Value) (s : Nat) (w : World) : Prop
  | mk
theorem Nop.chg {v : Value} {s : Nat} {w w' : World} {S : Nat → Prop} (_ : Nop v s w) (_ : Chg S w w') (_ : ∀ k, S k → k < s) : Nop v s w' := .mk
/-- A block of a body; the rest of a body from a region on. -/
def codeBlk (n : Nat) : Code → Option Code
  | .block m c => if m = n then some (.block m c) else codeBlk n c
  | .seq a b => match codeBlk n a with
    | some c => some c
    | none => codeBlk n b
  | .cond _ a b => match codeBlk n a with
    | some c => some c
    | none => codeBlk n b
  | .loop c => codeBlk n c
  | _ => none
def codeFrom (n : Nat) : Code → Option Code
  | .block _ c => codeFrom n c
  | .seq (.region m l d) b => if m = n then some (.seq (.region m l d) b) else codeFrom n b
  | .seq a b => match codeFrom n a with
    | some c => some c
    | none => codeFrom n b
  | .cond _ a b => match codeFrom n a with
    | some c => some c
    | none => codeFrom n b
  | .loop c => codeFrom n c
  | _ => none
theorem one_set {w : World} {b : Nat} {v0 : Value} (h : Blk w b #[v0]) (x0 : Value) : Blk (w.setCell ⟨b, 0, none⟩ x0) b #[x0] := by
  have h0 : Blk _ b #[x0] := h.set 0 x0
  exact h0
theorem one_chg (S : Nat → Prop) (w : World) {b : Nat} (hb : S b) (x0 : Value) : Chg S w (w.setCell ⟨b, 0, none⟩ x0) := ((Chg.refl S w).setCell (.inr hb) x0)
theorem two_set {w : World} {b : Nat} {v0 v1 : Value} (h : Blk w b #[v0, v1]) (x0 x1 : Value) : Blk ((w.setCell ⟨b, 0, none⟩ x0).setCell ⟨b, 1, none⟩ x1) b #[x0, x1] := by
  have h0 : Blk _ b #[x0, v1] := h.set 0 x0
  have h1 : Blk _ b #[x0, x1] := h0.set 1 x1
  exact h1
theorem two_chg (S : Nat → Prop) (w : World) {b : Nat} (hb : S b) (x0 x1 : Value) : Chg S w ((w.setCell ⟨b, 0, none⟩ x0).setCell ⟨b, 1, none⟩ x1) := ((Chg.refl S w).setCell (.inr hb) x0).setCell (.inr hb) x1
theorem kf_chg {S : Nat → Prop} {w W : World} {base : Nat} (h : Chg S w W) (hs : ∀ k, S k → k < base) : KeepsFrom base w W := ⟨h.size, fun k o hB hk _ => h.heap hk (fun e => by have := hs k e; omega)⟩
theorem MapL.notCells {κ ν : Type} {ek : κ → Value} {ev : ν → Value} {w : World} {b : Nat} {l : List (κ × ν)} (h : MapL ek ev w b l) {cs : Array Value} {t : TypeId} {f : Nat × Nat} (e : w.heap[b]? = some (.cells cs t f)) : False := by
  obtain ⟨es, c, h1, -⟩ := h.ex
  rw [h1] at e
  cases e
end Go.Proofs.Ytmopadnkjlodnaa
