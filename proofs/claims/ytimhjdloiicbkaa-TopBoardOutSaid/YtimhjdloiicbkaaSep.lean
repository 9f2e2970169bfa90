/-
  Blocks of one's own, each known by itself, and no two the same: for regions that draw their order and write several of them. Over any program.
-/
import Derived.Test.YtimhjdloiicbkaaOwn
import Derived.Test.YtimhjdloiicbkaaApp
import Derived.Test.YtimhjdloiicbkaaReg
import Derived.Maps.AppendAt
namespace Go.Proofs.Ytimhjdloiicbkaa
open Go.RowKit Go.BigFrame
/-- What is known of some blocks. -/
structure Res where
  fp : Nat → Prop
  A : World → Prop
  stable : ∀ w w', (∀ k, fp k → w'.heap[k]? = w.heap[k]?) → A w → A w'
def Res.none : Res := ⟨fun _ => False, fun _ => True, fun _ _ _ h => h⟩
def Res.blk (b : Nat) (cs : Array Value) : Res := ⟨fun k => k = b, fun w => Blk w b cs, fun _ _ h ⟨t, hb⟩ => ⟨t, by rw [h b rfl]; exact hb⟩⟩
def Res.own (base : Nat) (e : TypeId) (size : Nat) (v : Value) (n : Nat) (xs : List Value) : Res :=
  ⟨fun k => v.ownBlock = some k, fun w => w.ownsRow base e size v n xs, fun w w' h hw => by
    obtain ⟨h1, h2 | ⟨g, cap, cur, e1, h2, h3, h4⟩⟩ := hw
    · exact ⟨h1, .inl h2⟩
    · exact ⟨h1, .inr ⟨g, cap, cur, e1, h2, by rw [h g (by rw [e1]; rfl)]; exact h3, h4⟩⟩⟩
/-- Each of these is so, from lo on, and no two have a block in common. -/
structure Frm (lo : Nat) (rs : List Res) (w : World) : Prop where
  each : ∀ (i : Nat) (r : Res), rs[i]? = some r → r.A w ∧ ∀ k, r.fp k → lo ≤ k ∧ k < w.heap.size
  parts : ∀ (i j : Nat) (r s : Res), rs[i]? = some r → rs[j]? = some s → i ≠ j → ∀ k, r.fp k → ¬ s.fp k
theorem Frm.nones (lo n : Nat) (w : World) : Frm lo (List.replicate n Res.none) w := by
  have key : ∀ (i : Nat) (r : Res), (List.replicate n Res.none)[i]? = some r → r = Res.none := fun i r h => (List.eq_of_mem_replicate (List.mem_of_getElem? h))
  exact ⟨fun i r h => by rw [key i r h]; exact ⟨trivial, fun k hk => hk.elim⟩, fun i j r s h _ _ k hk => by rw [key i r h] at hk; exact hk.elim⟩
theorem Frm.get {lo : Nat} {rs : List Res} {w : World} (h : Frm lo rs w) (q : Nat) {r : Res} (hq : rs[q]? = some r) : r.A w := (h.each q r hq).1
theorem Frm.lt {lo : Nat} {rs : List Res} {w : World} (h : Frm lo rs w) (q : Nat) {r : Res} (hq : rs[q]? = some r) : ∀ k, r.fp k → lo ≤ k ∧ k < w.heap.size := (h.each q r hq).2
/-- One of them turns. -/
theorem Frm.upd {lo : Nat} {rs : List Res} {w w' : World} (h : Frm lo rs w) {S : Nat → Prop} (q : Nat) {r' : Res} (hx : Chg S w w') (hS : ∀ (i : Nat) (s : Res), i ≠ q → rs[i]? = some s → ∀ k, s.fp k → ¬ S k) (ha : r'.A w') (hb : ∀ k, r'.fp k → lo ≤ k ∧ k < w'.heap.size)
    (hd : ∀ (i : Nat) (s : Res), i ≠ q → rs[i]? = some s → ∀ k, r'.fp k → ¬ s.fp k) : Frm lo (rs.set q r') w' := by
  have key : ∀ (i : Nat) (s : Res), (rs.set q r')[i]? = some s → (i = q ∧ s = r') ∨ (i ≠ q ∧ rs[i]? = some s) := by
    intro i s hs
    by_cases e : i = q
    · subst e
      left
      rw [List.getElem?_set] at hs
      simp only [↓reduceIte] at hs
      split at hs
      · exact ⟨rfl, (Option.some.inj hs).symm⟩
      · cases hs
    · rw [List.getElem?_set_ne (Ne.symm e)] at hs
      exact .inr ⟨e, hs⟩
  refine ⟨fun i s hs => ?_, fun i j s t hi hj hij k hk hk' => ?_⟩
  · rcases key i s hs with ⟨_, rfl⟩ | ⟨e, hs⟩
    · exact ⟨ha, hb⟩
    · have h1 := h.each i s hs
      exact ⟨s.stable _ _ (fun k hk => hx.block k (h1.2 k hk).2 (hS i s e hs k hk)) h1.1, fun k hk => by have := h1.2 k hk; have := hx.size; omega⟩
  · rcases key i s hi with ⟨e1, e2⟩ | ⟨e1, h1⟩
    · rcases key j t hj with ⟨e3, _⟩ | ⟨e3, h3⟩
      · exact hij (e1.trans e3.symm)
      · exact hd j t e3 h3 k (e2 ▸ hk) hk'
    · rcases key j t hj with ⟨_, e4⟩ | ⟨e3, h3⟩
      · exact hd i s e1 h1 k (e4 ▸ hk') hk
      · exact h.parts i j s t h1 h3 hij k hk hk'
theorem Frm.set {lo : Nat} {rs : List Res} {w w' : World} (h : Frm lo rs w) (q : Nat) {r r' : Res} (hq : rs[q]? = some r) (hx : Chg r.fp w w') (ha : r'.A w') (hf : ∀ k, r'.fp k → r.fp k ∨ (w.heap.size ≤ k ∧ k < w'.heap.size)) (hlo : lo ≤ w.heap.size) : Frm lo (rs.set q r') w' :=
  h.upd q hx (fun i s e hs k hk => h.parts i q s r hs hq e k hk) ha (fun k hk => by rcases hf k hk with h1 | h1; have := h.lt q hq k h1; have := hx.size; omega; omega)
    (fun i s e hs k hk hk' => by
      rcases hf k hk with h1 | h1
      · exact h.parts i q s r hs hq e k hk' h1
      · have := h.lt i hs k hk'; omega)
theorem Frm.drop {lo : Nat} {rs : List Res} {w : World} (h : Frm lo rs w) (q : Nat) : Frm lo (rs.set q Res.none) w :=
  h.upd q (Chg.refl (fun _ => False) w) (fun _ _ _ _ _ _ => id) trivial (fun _ hk => hk.elim) (fun _ _ _ _ _ hk => hk.elim)
/-- One takes in what another one has. -/
theorem Frm.join {lo : Nat} {rs : List Res} {w w' : World} (h : Frm lo rs w) (q p : Nat) (hqp : q ≠ p) {r s r' : Res} (hq : rs[q]? = some r) (hp : rs[p]? = some s) (hx : Chg r.fp w w') (ha : r'.A w') (hf : ∀ k, r'.fp k → r.fp k ∨ s.fp k ∨ (w.heap.size ≤ k ∧ k < w'.heap.size)) (hlo : lo ≤ w.heap.size) :
    Frm lo ((rs.set p Res.none).set q r') w' := by
  have h1 : Frm lo (rs.set p Res.none) w := h.upd p (Chg.refl (fun _ => False) w) (fun _ _ _ _ _ _ => id) trivial (fun k hk => hk.elim) (fun _ _ _ _ _ hk => hk.elim)
  have key : ∀ (i : Nat) (t : Res), i ≠ q → (rs.set p Res.none)[i]? = some t → t = Res.none ∨ (i ≠ p ∧ rs[i]? = some t) := by
    intro i t e ht
    by_cases e2 : i = p
    · subst e2
      rw [List.getElem?_set] at ht
      simp only [↓reduceIte] at ht
      split at ht
      · exact .inl (Option.some.inj ht).symm
      · cases ht
    · rw [List.getElem?_set_ne (Ne.symm e2)] at ht
      exact .inr ⟨e2, ht⟩
  refine h1.upd q hx (fun i t e ht k hk => ?_) ha (fun k hk => ?_) (fun i t e ht k hk hk' => ?_)
  · rcases key i t e ht with rfl | ⟨e2, ht⟩
    · exact hk.elim
    · exact h.parts i q t r ht hq e k hk
  · have hs := hx.size
    rcases hf k hk with h2 | h2 | h2
    · have := h.lt q hq k h2; omega
    · have := h.lt p hp k h2; omega
    · omega
  · rcases key i t e ht with rfl | ⟨e2, ht⟩
    · exact hk'.elim
    · rcases hf k hk with h2 | h2 | h2
      · exact h.parts i q t r ht hq e k hk' h2
      · exact h.parts i p t s ht hp e2 k hk' h2
      · have := h.lt i ht k hk'; omega
theorem Frm.ext {lo : Nat} {rs : List Res} {w w' : World} (h : Frm lo rs w) (hx : Ext w w') : Frm lo rs w' :=
  ⟨fun i r hr => let h1 := h.each i r hr; ⟨r.stable _ _ (fun k hk => Below.block hx k (h1.2 k hk).2) h1.1, fun k hk => by have := h1.2 k hk; have := hx.size; omega⟩, h.parts⟩
/-- What an operation hands back. -/
inductive Knd
  | no
  | val (v : Value)
  | app (n : Nat)
  | box (m : Nat)
  | ptr
  | any
def Knd.loud : Knd → Bool
  | .no => false
  | _ => true
def Knd.ok : Knd → Value → Prop
  | .val v, x => x = v
  | .app n, x => ∃ a c, x = .slice a n c
  | .box m, x => ∃ k, x = .slice (some ⟨k, 0, none⟩) m m
  | .ptr, x => ∃ k, x = .pointer (some ⟨k, 0, none⟩)
  | _, _ => True
def Knd.wit : Knd → Value
  | .val v => v
  | .app n => .slice none n 0
  | .box m => .slice (some ⟨0, 0, none⟩) m m
  | .ptr => .pointer (some ⟨0, 0, none⟩)
  | _ => undef
theorem Knd.wit_ok : ∀ k : Knd, k.ok k.wit
  | .no => trivial
  | .any => trivial
  | .val _ => rfl
  | .app _ => ⟨_, _, rfl⟩
  | .box _ => ⟨_, rfl⟩
  | .ptr => ⟨_, rfl⟩
def kAt (ks : List Knd) (k : Nat) : Knd := ks.getD k .no
theorem kAt_lt {ks : List Knd} {k : Nat} (h : (kAt ks k).loud = true) : k < ks.length := by
  by_cases hk : k < ks.length
  · exact hk
  · unfold kAt at h
    rw [List.getD_eq_getElem?_getD, List.getElem?_eq_none (by omega)] at h
    cases h
/-- What is so behind an operation that turns one of them; that turns none. -/
theorem aft_set {ks : List Knd} {i lo : Nat} {rs rs' : List Res} {w0 w' : World} {v : Value} (x : Lat (fun b _ => lo ≤ b) w0) (hlo : lo ≤ w0.heap.size) (hk : (kAt ks i).ok v) (h : Frm lo rs x.world) (q : Nat) {r r' : Res} (hq : rs[q]? = some r) (hx : Chg r.fp x.world w') (ha : r'.A w')
    (hf : ∀ k, r'.fp k → r.fp k ∨ (x.world.heap.size ≤ k ∧ k < w'.heap.size)) (he : rs.set q r' = rs') : (kAt ks i).ok v ∧ (∃ y : Lat (fun b _ => lo ≤ b) w0, w' = y.world) ∧ Frm lo rs' w' :=
  ⟨hk, ⟨x.chgd hx (fun k hk => .inr fun _ => (h.lt q hq k hk).1), rfl⟩, he ▸ h.set q hq hx ha hf (Nat.le_trans hlo x.size)⟩
theorem aft_same {ks : List Knd} {i lo : Nat} {rs rs' : List Res} {w0 : World} {v : Value} (x : Lat (fun b _ => lo ≤ b) w0) (hk : (kAt ks i).ok v) (h : Frm lo rs x.world) (he : rs = rs') : (kAt ks i).ok v ∧ (∃ y : Lat (fun b _ => lo ≤ b) w0, x.world = y.world) ∧ Frm lo rs' x.world := ⟨hk, ⟨x, rfl⟩, he ▸ h⟩
theorem aft_store {ks : List Knd} {i lo b j : Nat} {cs : Array Value} {rs rs' : List Res} {w0 : World} {u v : Value} (x : Lat (fun b _ => lo ≤ b) w0) (hlo : lo ≤ w0.heap.size) (hk : (kAt ks i).ok u) (h : Frm lo rs x.world) (q : Nat) (hq : rs[q]? = some (Res.blk b cs)) (he : rs.set q (Res.blk b (cs.setIfInBounds j v)) = rs') :
    (kAt ks i).ok u ∧ (∃ y : Lat (fun b _ => lo ≤ b) w0, x.world.setCell ⟨b, j, none⟩ v = y.world) ∧ Frm lo rs' (x.world.setCell ⟨b, j, none⟩ v) :=
  aft_set x hlo hk h q hq (Chg.setCell (S := fun k => k = b) (Chg.refl _ _) (.inr rfl) v) (r' := Res.blk b (cs.setIfInBounds j v)) (Blk.set (h.get q hq) j v) (fun _ hk => .inl hk) he
theorem wp_region_sep {P : Program} {id : Nat} {Q : Exit → Act → World → Prop} {a0 : Act} {w : World} {l : List Oper} (hm : P.follows .mixedOrders = true) (ks : List Knd) (lo : Nat) (rs : (Nat → Bool) → (Nat → Value) → List Res)
    (hg : goodReg l.toArray a0.tmps.size = true) (hlen : ks.length ≤ l.length) (hrs : ∀ L L' u, (∀ k, (kAt ks k).loud = true → L' k = L k) → rs L' u = rs L u) (h0 : ∀ u, Frm lo (rs (fun _ => false) u) w)
    (h : ∀ T, Stays T → Nonempty (LatT (fun b _ => lo ≤ b) w T) → ∀ u, (∀ k, (kAt ks k).loud = true → (kAt ks k).ok (u k)) → Lx P l.toArray (fun w' => ∃ x : Lat (fun b _ => lo ≤ b) w, w' = x.world) (fun k => (kAt ks k).loud) (fun k => (kAt ks k).ok) (fun L u w => Frm lo (rs L u) w)
      (fun w' => ∃ x : LatT (fun b _ => lo ≤ b) w T, w' = x.toLat.world) u (fun a => ∀ x : Lat (fun b _ => lo ≤ b) w, Frm lo (rs (fun _ => true) u) x.world → Q .normal a x.world) 0 l a0) : (Code.region id l.toArray true).wp P Q a0 w :=
  wp_region_lat hm (fun b _ => lo ≤ b) (fun k => (kAt ks k).loud) (fun k => (kAt ks k).ok) (fun L u w => Frm lo (rs L u) w) hg (fun k hk => Nat.lt_of_lt_of_le (kAt_lt hk) hlen) (fun L L' u w hh hs => by rw [hrs L L' u hh]; exact hs) (fun _ _ _ _ hs hx => hs.ext hx)
    (fun k => (kAt ks k).wit) (fun k _ => (kAt ks k).wit_ok) ((h0 _).ext (Ext.refl w).drew) h
theorem wp_append_sep {P : Program} {w : World} {ops : Array Oper} {rest : List Oper} {o : Oper} {a : Act} {Q : Exit → Act → World → Prop} (hgd : o.guard = none) (s x : Operand) (t e : TypeId) (z : Value) (size bytes : Nat)
    (ho : o.op = .call { callee := .builtin .append, args := #[s, x], argTypes := #[t, t] }) (hinfo : (P.info? e).map (fun i => (i.zero, i.size, i.bytes)) = some (some z, size, bytes)) (ht : P.underlying t = some (.slice e)) (hzs : z.cells.size = size) (hpos : 0 < size)
    (base : Nat) (v : Value) (n : Nat) (xs : List Value) (hs : a.eval s = v) (hown : w.ownsRow base e size v n xs) (base' k m c : Nat) (news : List Value) (hx : a.eval x = .slice (some ⟨k, 0, none⟩) m c) (hbox : w.ownsRow base' e size (.slice (some ⟨k, 0, none⟩) m c) m news)
    (h1 : ∀ u ∈ news, u.oneCell' = true) (hsz : n + m ≤ 1000000000) (hby : bytes ≤ 100000) (hbase : base ≤ w.heap.size)
    (h : ∀ v' w', w'.ownsRow base e size v' (n + m) (xs ++ news) → Chg (fun k => v.ownBlock = some k) w w' → (∀ k, v'.ownBlock = some k → v.ownBlock = some k ∨ (w.heap.size ≤ k ∧ k < w'.heap.size)) → wpList P ops Q rest (a.put o.dst v') w') : wpList P ops Q (o :: rest) a w := by
  obtain ⟨i0, hi, hz0, hz1, hz2⟩ := info_parts hinfo
  refine wpList_append_own_at w hgd s x t ho base e i0 z size bytes ht hi hz0 hz1 hz2 hzs hpos v n xs hs hown ⟨k, 0, none⟩ m c news hx hbox.1 (fun j u hu => World.ownsRow.cells hbox rfl j u hu) h1 (by unfold maxLen; omega) ?_ hbase (fun v' w' h1 h2 _ h4 => h v' w' h1 (grown_chg h2) fun k hk => ?_)
  · exact Nat.le_trans (Nat.mul_le_mul (by omega : n + m ≤ 1000000000) hby) (by decide)
  · rcases h4 with h4 | h4
    · exact .inl (h4 ▸ hk)
    · rw [h4] at hk
      cases hk
      exact .inr ⟨Nat.le_refl _, (World.ownsRow.lt h1 _ h4).2⟩
theorem own_box {w : World} {base size m : Nat} {e : TypeId} {cs : Array Value} (hb : base ≤ w.heap.size) (hm : m ≤ maxLen) (hs : cs.size = m * size) : (w.alloc (.cells cs e)).ownsRow base e size (.slice (some ⟨w.heap.size, 0, none⟩) m m) m cs.toList := by
  refine ⟨by simpa using hs, .inr ⟨w.heap.size, m, cs, rfl, hb, ?_, Nat.le_refl _, hm, hs, List.take_of_length_le (by simp [hs])⟩⟩
  show (w.heap.push _)[w.heap.size]? = _
  simp
theorem own_shape {w : World} {base size n : Nat} {e : TypeId} {v : Value} {xs : List Value} (h : w.ownsRow base e size v n xs) : ∃ a c, v = .slice a n c := by
  obtain ⟨h1, ⟨e, h2⟩ | ⟨g, cap, cur, e, _⟩⟩ := h
  · exact ⟨none, 0, by rw [e, h2]⟩
  · exact ⟨_, _, e⟩
end Go.Proofs.Ytimhjdloiicbkaa
