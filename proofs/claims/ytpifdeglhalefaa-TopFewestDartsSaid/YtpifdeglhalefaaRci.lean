/-
  Inside the wide fence, and in a round: regions that draw their order, with calls and stores; operations on maps. No program here.
-/
import Derived.Test.YtpifdeglhalefaaKcp
import Derived.Test.YtpifdeglhalefaaSen
import Derived.Test.YtpifdeglhalefaaMpp
import Derived.Maps.OwnIn
import Derived.Sort.MapsRangeIn
namespace Go.Proofs.Ytpifdeglhalefaa
open Go.RowKit Go.BigFrame
theorem wpIn_lat {n : Nat} {P : Program} {id : Nat} {Q : Exit → Act → World → Prop} {a0 : Act} {w : World} {l : List Oper} (hm : P.follows .mixedOrders = true)
    (X : Nat → Nat → Prop) (NQ : Nat → Bool) (R : Nat → Value → Prop) (G : (Nat → Bool) → (Nat → Value) → World → Prop)
    (hg : goodReg l.toArray a0.tmps.size = true) (hNQ : ∀ k, NQ k = true → k < l.length) (hG : ∀ L L' u w, (∀ k, NQ k = true → L' k = L k) → G L u w → G L' u w) (hGs : ∀ L u, Stays (G L u))
    (u0 : Nat → Value) (hu0 : ∀ k, NQ k = true → R k (u0 k)) (hG0 : G (fun _ => false) u0 w.drew)
    (h : ∀ T, Stays T → Nonempty (LatT X w T) → ∀ u, (∀ k, NQ k = true → R k (u k)) → Lx P l.toArray (fun w' => ∃ x : Lat X w, w' = x.world) NQ R G (fun w' => ∃ x : LatT X w T, w' = x.toLat.world) u (fun a => ∀ x : Lat X w, G (fun _ => true) u x.world → Q .normal a x.world) 0 l a0) : (Code.region id l.toArray true).wpIn Fence.wide n P Q a0 w := by
  refine wpIn_region_ghost hm (fun w' => ∃ x : Lat X w, w' = x.world) NQ R G hg hNQ hG hGs ⟨Lat.of_ext X (Ext.refl w).drew, rfl⟩ u0 hu0 hG0 fun T hT hE u hu => ?_
  have e : (fun w' => (∃ x : Lat X w, w' = x.world) ∧ T w') = fun w' => ∃ x : LatT X w T, w' = x.toLat.world := funext fun w' => propext ⟨fun ⟨⟨x, hx⟩, ht⟩ => ⟨⟨x, hx ▸ ht⟩, hx⟩, fun ⟨x, hx⟩ => ⟨⟨x.toLat, hx⟩, hx ▸ x.stay⟩⟩
  rw [e]
  have e2 : (fun a => ∀ w', (∃ x : Lat X w, w' = x.world) → G (fun _ => true) u w' → Q .normal a w') = fun a => ∀ x : Lat X w, G (fun _ => true) u x.world → Q .normal a x.world :=
    funext fun a => propext ⟨fun h x hx => h _ ⟨x, rfl⟩ hx, fun h w' ⟨x, hx⟩ hg => by subst hx; exact h x hg⟩
  rw [e2]
  exact h T hT (let ⟨w', ⟨x, hx⟩, ht⟩ := hE; ⟨⟨x, hx ▸ ht⟩⟩) u hu
theorem wpIn_lat_r {n : Nat} {P : Program} {id : Nat} {Q : Exit → Act → World → Prop} {a0 : Act} {w : World} {l : List Oper} (lp : Nat) (hnd : noDefer l.toArray = true) (hm : P.follows .mixedOrders = true)
    (X : Nat → Nat → Prop) (NQ : Nat → Bool) (R : Nat → Value → Prop) (G : (Nat → Bool) → (Nat → Value) → World → Prop)
    (hg : goodReg l.toArray a0.tmps.size = true) (hNQ : ∀ k, NQ k = true → k < l.length) (hG : ∀ L L' u w, (∀ k, NQ k = true → L' k = L k) → G L u w → G L' u w) (hGs : ∀ L u, Stays (G L u))
    (u0 : Nat → Value) (hu0 : ∀ k, NQ k = true → R k (u0 k)) (hG0 : G (fun _ => false) u0 w.drew)
    (h : ∀ T, Stays T → Nonempty (LatT X w T) → ∀ u, (∀ k, NQ k = true → R k (u k)) → Lx P l.toArray (fun w' => ∃ x : Lat X w, w' = x.world) NQ R G (fun w' => ∃ x : LatT X w T, w' = x.toLat.world) u (fun a => ∀ x : Lat X w, G (fun _ => true) u x.world → Q .normal a x.world) 0 l a0) : (Code.region id l.toArray true).wpIn (Fence.wide.inRound lp) n P Q a0 w := by
  refine wpIn_region_ghost_r lp hnd hm (fun w' => ∃ x : Lat X w, w' = x.world) NQ R G hg hNQ hG hGs ⟨Lat.of_ext X (Ext.refl w).drew, rfl⟩ u0 hu0 hG0 fun T hT hE u hu => ?_
  have e : (fun w' => (∃ x : Lat X w, w' = x.world) ∧ T w') = fun w' => ∃ x : LatT X w T, w' = x.toLat.world := funext fun w' => propext ⟨fun ⟨⟨x, hx⟩, ht⟩ => ⟨⟨x, hx ▸ ht⟩, hx⟩, fun ⟨x, hx⟩ => ⟨⟨x.toLat, hx⟩, hx ▸ x.stay⟩⟩
  rw [e]
  have e2 : (fun a => ∀ w', (∃ x : Lat X w, w' = x.world) → G (fun _ => true) u w' → Q .normal a w') = fun a => ∀ x : Lat X w, G (fun _ => true) u x.world → Q .normal a x.world :=
    funext fun a => propext ⟨fun h x hx => h _ ⟨x, rfl⟩ hx, fun h w' ⟨x, hx⟩ hg => by subst hx; exact h x hg⟩
  rw [e2]
  exact h T hT (let ⟨w', ⟨x, hx⟩, ht⟩ := hE; ⟨⟨x, hx ▸ ht⟩⟩) u hu
theorem wpIn_calls {γ : Type} {n : Nat} {P : Program} {id : Nat} {Q : Exit → Act → World → Prop} {a0 : Act} {w : World} {l : List Oper} (hm : P.follows .mixedOrders = true) (ks : List Lik) (lo : Nat) (m : γ → Nat) (rs : γ → (Nat → Bool) → (Nat → Value) → List Res) (c0 : γ)
    (hg : goodReg l.toArray a0.tmps.size = true) (hlen : ks.length ≤ l.length) (hrs : ∀ c L L' u, (∀ k, (lAt ks k).loud = true → L' k = L k) → rs c L' u = rs c L u) (hm0 : m c0 ≤ w.heap.size) (h0 : ∀ u, Frm lo (rs c0 (fun _ => false) u) w)
    (h : ∀ T, Stays T → Nonempty (LatT (fun b _ => lo ≤ b) w T) → ∀ u, (∀ k, (lAt ks k).loud = true → (lAt ks k).p (u k)) → Lx P l.toArray (fun w' => ∃ x : Lat (fun b _ => lo ≤ b) w, w' = x.world) (fun k => (lAt ks k).loud) (fun k => (lAt ks k).p) (fun L u w => FrmE lo m (fun c => rs c L u) w)
      (fun w' => ∃ x : LatT (fun b _ => lo ≤ b) w T, w' = x.toLat.world) u (fun a => ∀ x : Lat (fun b _ => lo ≤ b) w, FrmE lo m (fun c => rs c (fun _ => true) u) x.world → Q .normal a x.world) 0 l a0) : (Code.region id l.toArray true).wpIn Fence.wide n P Q a0 w :=
  wpIn_lat hm (fun b _ => lo ≤ b) (fun k => (lAt ks k).loud) (fun k => (lAt ks k).p) (fun L u w => FrmE lo m (fun c => rs c L u) w) hg (fun k hk => Nat.lt_of_lt_of_le (lAt_lt hk) hlen) (fun L L' u w hh ⟨c, h1, h2⟩ => ⟨c, h1, by show Frm lo (rs c L' u) w; rw [hrs c L L' u hh]; exact h2⟩) (fun _ _ _ _ hs hx => hs.ext hx)
    (fun k => (lAt ks k).w) (fun k _ => (lAt ks k).ok) (FrmE.ext ⟨c0, hm0, h0 _⟩ (Ext.refl w).drew) h
theorem wpIn_calls_r {γ : Type} {n : Nat} {P : Program} {id : Nat} {Q : Exit → Act → World → Prop} {a0 : Act} {w : World} {l : List Oper} (lp : Nat) (hnd : noDefer l.toArray = true) (hm : P.follows .mixedOrders = true) (ks : List Lik) (lo : Nat) (m : γ → Nat) (rs : γ → (Nat → Bool) → (Nat → Value) → List Res) (c0 : γ)
    (hg : goodReg l.toArray a0.tmps.size = true) (hlen : ks.length ≤ l.length) (hrs : ∀ c L L' u, (∀ k, (lAt ks k).loud = true → L' k = L k) → rs c L' u = rs c L u) (hm0 : m c0 ≤ w.heap.size) (h0 : ∀ u, Frm lo (rs c0 (fun _ => false) u) w)
    (h : ∀ T, Stays T → Nonempty (LatT (fun b _ => lo ≤ b) w T) → ∀ u, (∀ k, (lAt ks k).loud = true → (lAt ks k).p (u k)) → Lx P l.toArray (fun w' => ∃ x : Lat (fun b _ => lo ≤ b) w, w' = x.world) (fun k => (lAt ks k).loud) (fun k => (lAt ks k).p) (fun L u w => FrmE lo m (fun c => rs c L u) w)
      (fun w' => ∃ x : LatT (fun b _ => lo ≤ b) w T, w' = x.toLat.world) u (fun a => ∀ x : Lat (fun b _ => lo ≤ b) w, FrmE lo m (fun c => rs c (fun _ => true) u) x.world → Q .normal a x.world) 0 l a0) : (Code.region id l.toArray true).wpIn (Fence.wide.inRound lp) n P Q a0 w :=
  wpIn_lat_r lp hnd hm (fun b _ => lo ≤ b) (fun k => (lAt ks k).loud) (fun k => (lAt ks k).p) (fun L u w => FrmE lo m (fun c => rs c L u) w) hg (fun k hk => Nat.lt_of_lt_of_le (lAt_lt hk) hlen) (fun L L' u w hh ⟨c, h1, h2⟩ => ⟨c, h1, by show Frm lo (rs c L' u) w; rw [hrs c L L' u hh]; exact h2⟩) (fun _ _ _ _ hs hx => hs.ext hx)
    (fun k => (lAt ks k).w) (fun k _ => (lAt ks k).ok) (FrmE.ext ⟨c0, hm0, h0 _⟩ (Ext.refl w).drew) h
/-- A region that draws its order, inside the fence: it only reads, or its calls only make memory. -/
theorem wpIn_region_lat {n : Nat} {P : Program} {id : Nat} {Q : Exit → Act → World → Prop} {a : Act} {w : World} {l : List Oper} (hm : P.follows .mixedOrders = true) (hg : goodReg l.toArray a.tmps.size = true)
    (h : ∀ T, Stays T → Nonempty (LatT NoX w T) → wpQuiet P l.toArray (fun w' => ∃ x : LatT NoX w T, w' = x.toLat.world) (fun a' => ∀ w', Ext w w' → Q .normal a' w') l a) : (Code.region id l.toArray true).wpIn Fence.wide n P Q a w := by
  refine wpIn_region_ghost hm (fun w' => ∃ x : Lat NoX w, w' = x.world) (fun _ => false) (fun _ _ => True) (fun _ _ _ => True) hg (fun k h => by cases h) (fun _ _ _ _ _ h => h) (fun _ _ _ _ _ _ => trivial) ⟨Lat.of_ext NoX (Ext.refl w).drew, rfl⟩ (fun _ => undef) (fun k h => by cases h) trivial fun T hT hE u hu => ?_
  have e : (fun w' => (∃ x : Lat NoX w, w' = x.world) ∧ T w') = fun w' => ∃ x : LatT NoX w T, w' = x.toLat.world := funext fun w' => propext ⟨fun ⟨⟨x, hx⟩, ht⟩ => ⟨⟨x, hx ▸ ht⟩, hx⟩, fun ⟨x, hx⟩ => ⟨⟨x.toLat, hx⟩, hx ▸ x.stay⟩⟩
  rw [e]
  have := lx_quiet (P := P) (ops := l.toArray) (C := fun w' => ∃ x : Lat NoX w, w' = x.world) (D := fun w' => ∃ x : LatT NoX w T, w' = x.toLat.world) (NQ := fun _ => false) (R := fun _ _ => True) (G := fun _ _ _ => True) (u := u)
    (Fin := fun a => ∀ w', (∃ x : Lat NoX w, w' = x.world) → True → Q .normal a w') l (i := 0) (rest := []) (a := a) (fun _ _ => rfl) (wpQuiet_mono' (fun a' ha => ?_) l a (h T hT (let ⟨_, ⟨x, hx⟩, ht⟩ := hE; ⟨⟨x, hx ▸ ht⟩⟩)))
  · rwa [List.append_nil] at this
  · show Lx _ _ _ _ _ _ _ _ _ _ [] a'
    refine lx_nil ?_
    rintro w' ⟨x, rfl⟩ _
    exact ha _ (Chg.to_ext (Ext.refl w) (Lat.chg x) (by rintro i ⟨o, h⟩; exact h.elim))
section
variable {κ ν : Type} {P : Program} {T : TypeId} {ek : κ → Value} {ev : ν → Value} {G : World → Prop} {F : Fence} {nF : Nat}
theorem wpIn_nextL {w : World} {ops : Array Oper} {rest : List Oper} {o : Oper} {a : Act} {Q : Exit → Act → World → Prop} (hg : o.guard = none) (it : Operand) (hop : o.op = Op.next it false) (r b : Nat) (left : List (κ × ν)) (hit : a.eval it = .pointer (some ⟨r, 0, none⟩)) (h : IterL ek ev w r b left)
    (hDone : left = [] → wpListIn F nF P ops Q rest (a.put o.dst (.tuple #[.bool false])) w)
    (hMore : ∀ (x : κ) (y : ν) pre post w', left = pre ++ (x, y) :: post → IterL ek ev w' r b (pre ++ post) → Chg (· = r) w w' → (Instr.entry (.pointer (some ⟨r, 0, none⟩))).run P w' = .ok (.tuple #[ek x, ev y]) w' → wpListIn F nF P ops Q rest (a.put o.dst (.tuple #[.bool true, ek x, ev y])) w') : wpListIn F nF P ops Q (o :: rest) a w := by
  refine wpListIn_plain hg fun K hK => ?_
  unfold Oper.wpIn
  refine ⟨by simp [Oper.about, hop], ?_⟩
  rw [Oper.semAt_plain F _ _ (by rw [hop]; intro c hc'; cases hc')]
  rcases run_nextL h o.type with ⟨h0, hrun⟩ | ⟨pre, x, post, w', h1, hrun, h2, h3, h4⟩
  · simp [execOp, hop, hit, Result.andThen]
    rw [hrun]
    exact hK _ _ (hDone h0)
  · simp [execOp, hop, hit, Result.andThen]
    rw [hrun]
    exact hK _ _ (hMore x.1 x.2 pre post w' h1 h2 h3 h4)
theorem wpIn_putL [DecidableEq κ] (KL : KeyL P T ek G) {t e : TypeId} (ht : P.underlying t = some (.map T e)) {w : World} {ops : Array Oper} {rest : List Oper} {o : Oper} {a : Act} {Q : Exit → Act → World → Prop} (hg : o.guard = none) (m x v : Operand) (hop : o.op = Op.mapUpdate t m x v) (b : Nat) (l : List (κ × ν)) (k : κ) (y : ν)
    (hm : a.eval m = .map (some b)) (h : MapL ek ev w b l) (hG : G w) (hx : a.eval x = ek k) (hv : a.eval v = ev y) (hK' : ∀ w', MapL ek ev w' b (putL l k y) → Chg (· = b) w w' → wpListIn F nF P ops Q rest (a.put o.dst undef) w') : wpListIn F nF P ops Q (o :: rest) a w := by
  refine wpListIn_plain hg fun K hK => ?_
  obtain ⟨w', hrun, h1, h2⟩ := run_put KL ht h hG k y
  unfold Oper.wpIn
  refine ⟨by simp [Oper.about, hop], ?_⟩
  rw [Oper.semAt_plain F _ _ (by rw [hop]; intro c hc'; cases hc')]
  simp [execOp, hop, hm, hx, hv, hrun, Result.andThen]
  exact hK _ _ (hK' w' h1 h2)
end
end Go.Proofs.Ytpifdeglhalefaa
