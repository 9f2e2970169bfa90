/-
  Regions that draw their order and hold calls that make memory: what each call left, as it was then. Over any program.
-/
import Derived.Test.YtimhjdloiicbkaaSep
namespace Go.Proofs.Ytimhjdloiicbkaa
open Go.RowKit Go.BigFrame
/-- The blocks from s on are as they were in a world. -/
def Res.snap (c : Nat × World) : Res := ⟨fun k => c.1 ≤ k ∧ k < c.2.heap.size, fun w => ∀ k, c.1 ≤ k → k < c.2.heap.size → w.heap[k]? = c.2.heap[k]?, fun _ _ h hw k h1 h2 => (h k ⟨h1, h2⟩).trans (hw k h1 h2)⟩
def Res.pure (φ : Prop) : Res := ⟨fun _ => False, fun _ => φ, fun _ _ _ h => h⟩
def FrmE {γ : Type} (lo : Nat) (m : γ → Nat) (rs : γ → List Res) (w : World) : Prop := ∃ c, m c ≤ w.heap.size ∧ Frm lo (rs c) w
theorem FrmE.ext {γ : Type} {lo : Nat} {m : γ → Nat} {rs : γ → List Res} {w w' : World} (h : FrmE lo m rs w) (hx : Ext w w') : FrmE lo m rs w' := let ⟨c, h1, h2⟩ := h; ⟨c, Nat.le_trans h1 hx.size, h2.ext hx⟩
def aggAt (i : Nat) : Value → Value
  | .agg cs => cs.getD i undef
  | .tuple cs => cs.getD i undef
  | _ => undef
def ptrAt : Value → Nat
  | .pointer (some ⟨k, _, _⟩) => k
  | _ => 0
/-- What an operation hands back, by a word of one's own. -/
structure Lik where
  loud : Bool
  p : Value → Prop
  w : Value
  ok : p w
def Lik.no : Lik := ⟨false, fun _ => True, undef, trivial⟩
def Lik.any : Lik := ⟨true, fun _ => True, undef, trivial⟩
def Lik.ptr : Lik := ⟨true, fun v => ∃ k, v = .pointer (some ⟨k, 0, none⟩), .pointer (some ⟨0, 0, none⟩), ⟨_, rfl⟩⟩
def Lik.slc (n : Nat) : Lik := ⟨true, fun v => ∃ a c, v = .slice a n c, .slice none n 0, ⟨_, _, rfl⟩⟩
def Lik.box (n : Nat) : Lik := ⟨true, fun v => ∃ k, v = .slice (some ⟨k, 0, none⟩) n n, .slice (some ⟨0, 0, none⟩) n n, ⟨_, rfl⟩⟩
def Lik.of (p : Value → Prop) (w : Value) (h : p w) : Lik := ⟨true, p, w, h⟩
def lAt (ks : List Lik) (k : Nat) : Lik := ks.getD k .no
theorem lAt_lt {ks : List Lik} {k : Nat} (h : (lAt ks k).loud = true) : k < ks.length := by
  by_cases hk : k < ks.length
  · exact hk
  · unfold lAt at h
    rw [List.getD_eq_getElem?_getD, List.getElem?_eq_none (by omega)] at h
    cases h
theorem wp_region_calls {γ : Type} {P : Program} {id : Nat} {Q : Exit → Act → World → Prop} {a0 : Act} {w : World} {l : List Oper} (hm : P.follows .mixedOrders = true) (ks : List Lik) (lo : Nat) (m : γ → Nat) (rs : γ → (Nat → Bool) → (Nat → Value) → List Res) (c0 : γ)
    (hg : goodReg l.toArray a0.tmps.size = true) (hlen : ks.length ≤ l.length) (hrs : ∀ c L L' u, (∀ k, (lAt ks k).loud = true → L' k = L k) → rs c L' u = rs c L u) (hm0 : m c0 ≤ w.heap.size) (h0 : ∀ u, Frm lo (rs c0 (fun _ => false) u) w)
    (h : ∀ T, Stays T → Nonempty (LatT (fun b _ => lo ≤ b) w T) → ∀ u, (∀ k, (lAt ks k).loud = true → (lAt ks k).p (u k)) → Lx P l.toArray (fun w' => ∃ x : Lat (fun b _ => lo ≤ b) w, w' = x.world) (fun k => (lAt ks k).loud) (fun k => (lAt ks k).p) (fun L u w => FrmE lo m (fun c => rs c L u) w)
      (fun w' => ∃ x : LatT (fun b _ => lo ≤ b) w T, w' = x.toLat.world) u (fun a => ∀ x : Lat (fun b _ => lo ≤ b) w, FrmE lo m (fun c => rs c (fun _ => true) u) x.world → Q .normal a x.world) 0 l a0) : (Code.region id l.toArray true).wp P Q a0 w :=
  wp_region_lat hm (fun b _ => lo ≤ b) (fun k => (lAt ks k).loud) (fun k => (lAt ks k).p) (fun L u w => FrmE lo m (fun c => rs c L u) w) hg (fun k hk => Nat.lt_of_lt_of_le (lAt_lt hk) hlen) (fun L L' u w hh ⟨c, h1, h2⟩ => ⟨c, h1, by show Frm lo (rs c L' u) w; rw [hrs c L L' u hh]; exact h2⟩) (fun _ _ _ _ hs hx => hs.ext hx)
    (fun k => (lAt ks k).w) (fun k _ => (lAt ks k).ok) (FrmE.ext ⟨c0, hm0, h0 _⟩ (Ext.refl w).drew) h
/-- Behind a call. -/
theorem lik_call {γ : Type} {ks : List Lik} {i lo : Nat} {m : γ → Nat} {rs : List Res} {rs' : γ → List Res} {w0 w' : World} {v : Value} (x : Lat (fun b _ => lo ≤ b) w0) (hlo : lo ≤ w0.heap.size) (hk : (lAt ks i).p v) (h : Frm lo rs x.world) (q q' : Nat) (hqq : q ≠ q') (hq : rs[q]? = some Res.none) (hq' : rs[q']? = some Res.none) (hx : Ext x.world w')
    (c' : γ) (hm : m c' ≤ w'.heap.size) {φ : Prop} (hφ : φ) (he : (rs.set q (Res.snap (x.world.heap.size, w'))).set q' (Res.pure φ) = rs' c') : (lAt ks i).p v ∧ (∃ y : Lat (fun b _ => lo ≤ b) w0, w' = y.world) ∧ FrmE lo m rs' w' := by
  have h1 := h.set q hq (hx.chg _) (r' := Res.snap (x.world.heap.size, w')) (fun k _ _ => rfl) (fun k hk => .inr hk) (Nat.le_trans hlo x.size)
  have h2 := h1.set q' (r := Res.none) (r' := Res.pure φ) (by rw [List.getElem?_set_ne hqq]; exact hq') (Chg.refl _ _) hφ (fun k hk => hk.elim) (Nat.le_trans (Nat.le_trans hlo x.size) hx.size)
  exact ⟨hk, ⟨x.ext hx, rfl⟩, c', hm, he ▸ h2⟩
theorem lik_set {γ : Type} {ks : List Lik} {i lo : Nat} {m : γ → Nat} {rs : List Res} {rs' : γ → List Res} {w0 w' : World} {v : Value} (x : Lat (fun b _ => lo ≤ b) w0) (hlo : lo ≤ w0.heap.size) (hk : (lAt ks i).p v) (h : Frm lo rs x.world) (q : Nat) {r r' : Res} (hq : rs[q]? = some r) (hx : Chg r.fp x.world w') (ha : r'.A w')
    (hf : ∀ k, r'.fp k → r.fp k ∨ (x.world.heap.size ≤ k ∧ k < w'.heap.size)) (c' : γ) (hm : m c' ≤ x.world.heap.size) (he : rs.set q r' = rs' c') : (lAt ks i).p v ∧ (∃ y : Lat (fun b _ => lo ≤ b) w0, w' = y.world) ∧ FrmE lo m rs' w' :=
  ⟨hk, ⟨x.chgd hx (fun k hk => .inr fun _ => (h.lt q hq k hk).1), rfl⟩, c', Nat.le_trans hm hx.size, he ▸ h.set q hq hx ha hf (Nat.le_trans hlo x.size)⟩
theorem snap_chg {s : Nat} {w0 w1 w : World} (hA : (Res.snap (s, w1)).A w) (h01 : Ext w0 w1) (hX : Ext w0 w) (hsz : w1.heap.size ≤ w.heap.size) : Chg (fun k => w0.heap.size ≤ k ∧ k < s) w1 w :=
  ⟨(Below.os hX).trans (Below.os h01).symm, (Below.tape hX).trans (Below.tape h01).symm, (Below.output hX).trans (Below.output h01).symm, hsz, fun k hk hs => by
    by_cases h : k < w0.heap.size
    · rw [Below.block hX k h, Below.block h01 k h]
    · exact hA k (by have : ¬ (w0.heap.size ≤ k ∧ k < s) := hs; show s ≤ k; omega) hk⟩
/-- Append of a slice that lies elsewhere. -/
theorem wp_append_from {P : Program} {w : World} {ops : Array Oper} {rest : List Oper} {o : Oper} {a : Act} {Q : Exit → Act → World → Prop} (hgd : o.guard = none) (s x : Operand) (t e : TypeId) (z : Value) (size bytes : Nat)
    (ho : o.op = .call { callee := .builtin .append, args := #[s, x], argTypes := #[t, t] }) (hinfo : (P.info? e).map (fun i => (i.zero, i.size, i.bytes)) = some (some z, size, bytes)) (ht : P.underlying t = some (.slice e)) (hzs : z.cells.size = size) (hpos : 0 < size)
    (base : Nat) (v : Value) (n : Nat) (xs : List Value) (hs : a.eval s = v) (hown : w.ownsRow base e size v n xs) (ya : Option Addr) (m c : Nat) (news : List Value) (hx : a.eval x = .slice ya m c) (hnil : ya = none → m = 0 ∧ c = 0)
    (hl : news.length = m * size) (hc : ∀ ad, ya = some ad → ∀ j u, news[j]? = some u → w.cell? (ad.add j) = some u) (h1 : ∀ u ∈ news, u.oneCell' = true) (hsz : n + m ≤ 1000000000) (hby : bytes ≤ 100000) (hbase : base ≤ w.heap.size)
    (h : ∀ v' w', w'.ownsRow base e size v' (n + m) (xs ++ news) → Chg (fun k => v.ownBlock = some k) w w' → (∀ k, v'.ownBlock = some k → v.ownBlock = some k ∨ (w.heap.size ≤ k ∧ k < w'.heap.size)) → wpList P ops Q rest (a.put o.dst v') w') : wpList P ops Q (o :: rest) a w := by
  obtain ⟨i0, hi, hz0, hz1, hz2⟩ := info_parts hinfo
  cases ya with
  | none =>
    obtain ⟨rfl, rfl⟩ := hnil rfl
    have : news = [] := List.length_eq_zero_iff.1 (by simpa using hl)
    subst this
    exact wpList_append_own_none hgd s x t ho base e i0 size ht hi v n xs hs hown hx (h v w (by simpa using hown) (Chg.refl _ _) (fun k hk => .inl hk))
  | some ad =>
    refine wpList_append_own_at w hgd s x t ho base e i0 z size bytes ht hi hz0 hz1 hz2 hzs hpos v n xs hs hown ad m c news hx hl (hc ad rfl) h1 (by unfold maxLen; omega) ?_ hbase (fun v' w' h1 h2 _ h4 => h v' w' h1 (grown_chg h2) fun k hk => ?_)
    · exact Nat.le_trans (Nat.mul_le_mul (by omega : n + m ≤ 1000000000) hby) (by decide)
    · rcases h4 with h4 | h4
      · exact .inl (h4 ▸ hk)
      · rw [h4] at hk
        cases hk
        exact .inr ⟨Nat.le_refl _, (World.ownsRow.lt h1 _ h4).2⟩
end Go.Proofs.Ytimhjdloiicbkaa
