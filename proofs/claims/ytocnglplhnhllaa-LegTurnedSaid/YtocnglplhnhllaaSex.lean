/-
  Chapter 3: a leg that was played, wherever it lies.
-/
import Derived.Test.YtocnglplhnhllaaSep
import Derived.Test.YtocnglplhnhllaaTak
import Derived.Test.YtocnglplhnhllaaKep
namespace Go.Proofs.Ytocnglplhnhllaa
open Go.RowKit Go.BigFrame
/-- The blocks from s on are as they were in a world. -/
def Res.snap (c : Nat × World) : Res := ⟨fun k => c.1 ≤ k ∧ k < c.2.heap.size, fun w => ∀ k, c.1 ≤ k → k < c.2.heap.size → w.heap[k]? = c.2.heap[k]?, fun _ _ h hw k h1 h2 => (h k ⟨h1, h2⟩).trans (hw k h1 h2)⟩
def Res.pure (φ : Prop) : Res := ⟨fun _ => False, fun _ => φ, fun _ _ _ h => h⟩
def FrmE {γ : Type} (lo : Nat) (m : γ → Nat) (rs : γ → List Res) (w : World) : Prop := ∃ c, m c ≤ w.heap.size ∧ Frm lo (rs c) w
theorem FrmE.ext {γ : Type} {lo : Nat} {m : γ → Nat} {rs : γ → List Res} {w w' : World} (h : FrmE lo m rs w) (hx : Ext w w') : FrmE lo m rs w' := let ⟨c, h1, h2⟩ := h; ⟨c, Nat.le_trans h1 hx.size, h2.ext hx⟩
def aggAt (i : Nat) : Value → Value
  | .agg cs => cs.getD i undef
  | .tuple cs => cs.getD i undef
  | _ => undef
def ptrAt : Value → Nat
  | .pointer (some ⟨k, _, _⟩) => k
  | _ => 0
/-- What an operation hands back, by a word of one's own. -/
structure Lik where
  loud : Bool
  p : Value → Prop
  w : Value
  ok : p w
def Lik.no : Lik := ⟨false, fun _ => True, undef, trivial⟩
def Lik.any : Lik := ⟨true, fun _ => True, undef, trivial⟩
def Lik.ptr : Lik := ⟨true, fun v => ∃ k, v = .pointer (some ⟨k, 0, none⟩), .pointer (some ⟨0, 0, none⟩), ⟨_, rfl⟩⟩
def Lik.slc (n : Nat) : Lik := ⟨true, fun v => ∃ a c, v = .slice a n c, .slice none n 0, ⟨_, _, rfl⟩⟩
def Lik.box (n : Nat) : Lik := ⟨true, fun v => ∃ k, v = .slice (some ⟨k, 0, none⟩) n n, .slice (some ⟨0, 0, none⟩) n n, ⟨_, rfl⟩⟩
def Lik.of (p : Value → Prop) (w : Value) (h : p w) : Lik := ⟨true, p, w, h⟩
def lAt (ks : List Lik) (k : Nat) : Lik := ks.getD k .no
theorem lAt_lt {ks : List Lik} {k : Nat} (h : (lAt ks k).loud = true) : k < ks.length := by
  by_cases hk : k < ks.length
  · exact hk
  · unfold lAt at h
    rw [List.getD_eq_getElem?_getD, List.getElem?_eq_none (by omega)] at h
    cases h
theorem wp_region_calls {γ : Type} {P : Program} {id : Nat} {Q : Exit → Act → World → Prop} {a0 : Act} {w : World} {l : List Oper} (hm : P.follows .mixedOrders = true) (ks : List Lik) (lo : Nat) (m : γ → Nat) (rs : γ → (Nat → Bool) → (Nat → Value) → List Res) (c0 : γ)
    (hg : goodReg l.toArray a0.tmps.size = true) (hlen : ks.length ≤ l.length) (hrs : ∀ c L L' u, (∀ k, (lAt ks k).loud = true → L' k = L k) → rs c L' u = rs c L u) (hm0 : m c0 ≤ w.heap.size) (h0 : ∀ u, Frm lo (rs c0 (fun _ => false) u) w)
    (h : ∀ T, Stays T → Nonempty (LatT (fun b _ => lo ≤ b) w T) → ∀ u, (∀ k, (lAt ks k).loud = true → (lAt ks k).p (u k)) → Lx P l.toArray (fun w' => ∃ x : Lat (fun b _ => lo ≤ b) w, w' = x.world) (fun k => (lAt ks k).loud) (fun k => (lAt ks k).p) (fun L u w => FrmE lo m (fun c => rs c L u) w)
      (fun w' => ∃ x : LatT (fun b _ => lo ≤ b) w T, w' = x.toLat.world) u (fun a => ∀ x : Lat (fun b _ => lo ≤ b) w, FrmE lo m (fun c => rs c (fun _ => true) u) x.world → Q .normal a x.world) 0 l a0) : (Code.region id l.toArray true).wp P Q a0 w :=
  wp_region_lat hm (fun b _ => lo ≤ b) (fun k => (lAt ks k).loud) (fun k => (lAt ks k).p) (fun L u w => FrmE lo m (fun c => rs c L u) w) hg (fun k hk => Nat.lt_of_lt_of_le (lAt_lt hk) hlen) (fun L L' u w hh ⟨c, h1, h2⟩ => ⟨c, h1, by show Frm lo (rs c L' u) w; rw [hrs c L L' u hh]; exact h2⟩) (fun _ _ _ _ hs hx => hs.ext hx)
    (fun k => (lAt ks k).w) (fun k _ => (lAt ks k).ok) (FrmE.ext ⟨c0, hm0, h0 _⟩ (Ext.refl w).drew) h
/-- Behind a call. -/
theorem lik_call {γ : Type} {ks : List Lik} {i lo : Nat} {m : γ → Nat} {rs : List Res} {rs' : γ → List Res} {w0 w' : World} {v : Value} (x : Lat (fun b _ => lo ≤ b) w0) (hlo : lo ≤ w0.heap.size) (hk : (lAt ks i).p v) (h : Frm lo rs x.world) (q q' : Nat) (hqq : q ≠ q') (hq : rs[q]? = some Res.none) (hq' : rs[q']? = some Res.none) (hx : Ext x.world w')
    (c' : γ) (hm : m c' ≤ w'.heap.size) {φ : Prop} (hφ : φ) (he : (rs.set q (Res.snap (x.world.heap.size, w'))).set q' (Res.pure φ) = rs' c') : (lAt ks i).p v ∧ (∃ y : Lat (fun b _ => lo ≤ b) w0, w' = y.world) ∧ FrmE lo m rs' w' := by
  have h1 := h.set q hq (hx.chg _) (r' := Res.snap (x.world.heap.size, w')) (fun k _ _ => rfl) (fun k hk => .inr hk) (Nat.le_trans hlo x.size)
  have h2 := h1.set q' (r := Res.none) (r' := Res.pure φ) (by rw [List.getElem?_set_ne hqq]; exact hq') (Chg.refl _ _) hφ (fun k hk => hk.elim) (Nat.le_trans (Nat.le_trans hlo x.size) hx.size)
  exact ⟨hk, ⟨x.ext hx, rfl⟩, c', hm, he ▸ h2⟩
theorem lik_set {γ : Type} {ks : List Lik} {i lo : Nat} {m : γ → Nat} {rs : List Res} {rs' : γ → List Res} {w0 w' : World} {v : Value} (x : Lat (fun b _ => lo ≤ b) w0) (hlo : lo ≤ w0.heap.size) (hk : (lAt ks i).p v) (h : Frm lo rs x.world) (q : Nat) {r r' : Res} (hq : rs[q]? = some r) (hx : Chg r.fp x.world w') (ha : r'.A w')
    (hf : ∀ k, r'.fp k → r.fp k ∨ (x.world.heap.size ≤ k ∧ k < w'.heap.size)) (c' : γ) (hm : m c' ≤ x.world.heap.size) (he : rs.set q r' = rs' c') : (lAt ks i).p v ∧ (∃ y : Lat (fun b _ => lo ≤ b) w0, w' = y.world) ∧ FrmE lo m rs' w' :=
  ⟨hk, ⟨x.chgd hx (fun k hk => .inr fun _ => (h.lt q hq k hk).1), rfl⟩, c', Nat.le_trans hm hx.size, he ▸ h.set q hq hx ha hf (Nat.le_trans hlo x.size)⟩
theorem snap_chg {s : Nat} {w0 w1 w : World} (hA : (Res.snap (s, w1)).A w) (h01 : Ext w0 w1) (hX : Ext w0 w) (hsz : w1.heap.size ≤ w.heap.size) : Chg (fun k => w0.heap.size ≤ k ∧ k < s) w1 w :=
  ⟨(Below.os hX).trans (Below.os h01).symm, (Below.tape hX).trans (Below.tape h01).symm, (Below.output hX).trans (Below.output h01).symm, hsz, fun k hk hs => by
    by_cases h : k < w0.heap.size
    · rw [Below.block hX k h, Below.block h01 k h]
    · exact hA k (by have : ¬ (w0.heap.size ≤ k ∧ k < s) := hs; show s ≤ k; omega) hk⟩
/-- Append of a slice that lies elsewhere. -/
theorem wp_append_from {P : Program} {w : World} {ops : Array Oper} {rest : List Oper} {o : Oper} {a : Act} {Q : Exit → Act → World → Prop} (hgd : o.guard = none) (s x : Operand) (t e : TypeId) (z : Value) (size bytes : Nat)
    (ho : o.op = .call { callee := .builtin .append, args := #[s, x], argTypes := #[t, t] }) (hinfo : (P.info? e).map (fun i => (i.zero, i.size, i.bytes)) = some (some z, size, bytes)) (ht : P.underlying t = some (.slice e)) (hzs : z.cells.size = size) (hpos : 0 < size)
    (base : Nat) (v : Value) (n : Nat) (xs : List Value) (hs : a.eval s = v) (hown : w.ownsRow base e size v n xs) (ya : Option Addr) (m c : Nat) (news : List Value) (hx : a.eval x = .slice ya m c) (hnil : ya = none → m = 0 ∧ c = 0)
    (hl : news.length = m * size) (hc : ∀ ad, ya = some ad → ∀ j u, news[j]? = some u → w.cell? (ad.add j) = some u) (h1 : ∀ u ∈ news, u.oneCell' = true) (hsz : n + m ≤ 1000000000) (hby : bytes ≤ 100000) (hbase : base ≤ w.heap.size)
    (h : ∀ v' w', w'.ownsRow base e size v' (n + m) (xs ++ news) → Chg (fun k => v.ownBlock = some k) w w' → (∀ k, v'.ownBlock = some k → v.ownBlock = some k ∨ (w.heap.size ≤ k ∧ k < w'.heap.size)) → wpList P ops Q rest (a.put o.dst v') w') : wpList P ops Q (o :: rest) a w := by
  obtain ⟨i0, hi, hz0, hz1, hz2⟩ := info_parts hinfo
  cases ya with
  | none =>
    obtain ⟨rfl, rfl⟩ := hnil rfl
    have : news = [] := List.length_eq_zero_iff.1 (by simpa using hl)
    subst this
    exact wpList_append_own_none hgd s x t ho base e i0 size ht hi v n xs hs hown hx (h v w (by simpa using hown) (Chg.refl _ _) (fun k hk => .inl hk))
  | some ad =>
    refine wpList_append_own_at w hgd s x t ho base e i0 z size bytes ht hi hz0 hz1 hz2 hzs hpos v n xs hs hown ad m c news hx hl (hc ad rfl) h1 (by unfold maxLen; omega) ?_ hbase (fun v' w' h1 h2 _ h4 => h v' w' h1 (grown_chg h2) fun k hk => ?_)
    · exact Nat.le_trans (Nat.mul_le_mul (by omega : n + m ≤ 1000000000) hby) (by decide)
    · rcases h4 with h4 | h4
      · exact .inl (h4 ▸ hk)
      · rw [h4] at hk
        cases hk
        exact .inr ⟨Nat.le_refl _, (World.ownsRow.lt h1 _ h4).2⟩
end Go.Proofs.Ytocnglplhnhllaa
namespace Go.Proofs.Ytocnglplhnhllaa
open Go.RowKit Go.BigFrame
def RulV (r : Rul) (v : Value) (s : Nat) (w : World) : Prop := ∃ a c, v = .agg #[.slice a r.counts.length c, .int .i64 r.first, .int .i64 r.rounds, .bool r.equal] ∧ w.ownsRow s 24 3 (.slice a r.counts.length c) r.counts.length (r.counts.flatMap Cnt.cells)
def TalV (H : Hnd) (v : Value) (s : Nat) (w : World) : Prop := ∃ l us g E A vv lv tv iv ev av, v = .agg #[vv, lv, tv, iv, ev, av, .int .i64 g.round, .bool g.over] ∧ TalP H s l us g E A vv lv tv iv ev av w
theorem RulV.chg {r : Rul} {v : Value} {s : Nat} {w w' : World} (h : RulV r v s w) {S : Nat → Prop} (hx : Chg S w w') (hS : ∀ k, S k → k < s) : RulV r v s w' := by
  obtain ⟨a, c, e, h⟩ := h
  exact ⟨a, c, e, own_chg h hx (fun k hk hs => by have := hS k hs; have := (own_lt h k hk).1; omega)⟩
theorem TalP.chg {H : Hnd} {s : Nat} {l : List LV} {us : List Value} {g : Gm} {E A : List Int} {vv lv tv iv ev av : Value} {w w' : World} (h : TalP H s l us g E A vv lv tv iv ev av w) {S : Nat → Prop} (hx : Chg S w w') (hS : ∀ k, S k → k < s) : TalP H s l us g E A vv lv tv iv ev av w' := by
  have key : ∀ {e : TypeId} {size n : Nat} {v : Value} {xs : List Value}, w.ownsRow s e size v n xs → ∀ k, v.ownBlock = some k → ¬ S k := fun h k hk hs => by have := hS k hs; have := (own_lt h k hk).1; omega
  exact ⟨h.zero, h.tale, h.vis.chg hx (key h.vis.outer) (fun u hu k hk hs => by have := hS k hs; have := (h.vis.lts u hu k hk).1; omega), h.left.chg hx (key h.left), h.darts.chg hx (key h.darts), h.inn.chg hx (key h.inn), h.ended.chg hx (key h.ended), h.lasts.chg hx (key h.lasts), h.short, h.stop⟩
theorem TalV.chg {H : Hnd} {v : Value} {s : Nat} {w w' : World} (h : TalV H v s w) {S : Nat → Prop} (hx : Chg S w w') (hS : ∀ k, S k → k < s) : TalV H v s w' := by
  obtain ⟨l, us, g, E, A, vv, lv, tv, iv, ev, av, e, h⟩ := h
  exact ⟨l, us, g, E, A, vv, lv, tv, iv, ev, av, e, h.chg hx hS⟩
/-- The shape of a tale. -/
def TalS (v : Value) : Prop := ∃ a0 a1 a2 a3 a4 a5 n0 n1 n2 n3 n4 n5 c0 c1 c2 c3 c4 c5 gr ov, v = .agg #[.slice a0 n0 c0, .slice a1 n1 c1, .slice a2 n2 c2, .slice a3 n3 c3, .slice a4 n4 c4, .slice a5 n5 c5, .int .i64 gr, .bool ov]
theorem TalV.shape {H : Hnd} {v : Value} {s : Nat} {w : World} (h : TalV H v s w) : TalS v := by
  obtain ⟨l, us, g, E, A, vv, lv, tv, iv, ev, av, rfl, h⟩ := h
  obtain ⟨a0, c0, rfl⟩ := own_shape h.vis.outer
  obtain ⟨a1, c1, rfl⟩ := own_shape h.left
  obtain ⟨a2, c2, rfl⟩ := own_shape h.darts
  obtain ⟨a3, c3, rfl⟩ := own_shape h.inn
  obtain ⟨a4, c4, rfl⟩ := own_shape h.ended
  obtain ⟨a5, c5, rfl⟩ := own_shape h.lasts
  exact ⟨_, _, _, _, _, _, _, _, _, _, _, _, _, _, _, _, _, _, _, _, rfl⟩
def talW : Value := .agg #[.slice none 0 0, .slice none 0 0, .slice none 0 0, .slice none 0 0, .slice none 0 0, .slice none 0 0, .int .i64 0, .bool false]
theorem talW_shape : TalS talW := ⟨_, _, _, _, _, _, _, _, _, _, _, _, _, _, _, _, _, _, _, _, rfl⟩
/-- A tale, to be read. -/
structure TalRd (H : Hnd) (a0 a1 a2 a3 a4 a5 : Option Addr) (n0 n1 n2 n3 n4 n5 c0 : Nat) (gr : Int) (ov : Bool) (w : World) (l : List LV) (g : Gm) (E A : List Int) : Prop where
  len : n0 = l.length
  vis : VisIn w a0 l
  nil : a0 = none → l.length = 0 ∧ c0 = 0
  cap : n0 ≤ c0
  n1 : n1 = g.left.length
  left : CellsAt w .i64 a1 g.left
  n2 : n2 = g.darts.length
  darts : CellsAt w .i64 a2 g.darts
  n3 : n3 = g.inn.length
  inn : BoolsAt w a3 g.inn
  n4 : n4 = E.length
  ended : CellsAt w .i64 a4 E
  n5 : n5 = A.length
  lasts : CellsAt w .i64 a5 A
  round : gr = g.round
  over : ov = g.over
  zero : H.counts.length = 0 → l = [] ∧ g = Gm.begin H.rul ∧ E = [] ∧ A = []
  tale : 0 < H.counts.length → TalI H.rul l g E A
  short : l.length ≤ 60
  stop : 0 < H.counts.length → g.over = true ∨ l.length = 60
theorem TalV.reads {H : Hnd} {a0 a1 a2 a3 a4 a5 : Option Addr} {n0 n1 n2 n3 n4 n5 c0 c1 c2 c3 c4 c5 s : Nat} {gr : Int} {ov : Bool} {w : World} (h : TalV H (.agg #[.slice a0 n0 c0, .slice a1 n1 c1, .slice a2 n2 c2, .slice a3 n3 c3, .slice a4 n4 c4, .slice a5 n5 c5, .int .i64 gr, .bool ov]) s w) : ∃ l g E A, TalRd H a0 a1 a2 a3 a4 a5 n0 n1 n2 n3 n4 n5 c0 gr ov w l g E A := by
  obtain ⟨l, us, g, E, A, vv, lv, tv, iv, ev, av, e, h⟩ := h
  obtain ⟨b0, d0, rfl, hv, hn⟩ := h.vis.visIn
  obtain ⟨b1, d1, rfl, h1⟩ := OwnI.cells h.left
  obtain ⟨b2, d2, rfl, h2⟩ := OwnI.cells h.darts
  obtain ⟨b3, d3, rfl, h3⟩ := OwnB.cells h.inn
  obtain ⟨b4, d4, rfl, h4⟩ := OwnI.cells h.ended
  obtain ⟨b5, d5, rfl, h5⟩ := OwnI.cells h.lasts
  simp only [Value.agg.injEq, Array.mk.injEq, List.cons.injEq, Value.slice.injEq, Value.int.injEq, Value.bool.injEq, and_true, true_and] at e
  obtain ⟨⟨rfl, rfl, rfl⟩, ⟨rfl, rfl, rfl⟩, ⟨rfl, rfl, rfl⟩, ⟨rfl, rfl, rfl⟩, ⟨rfl, rfl, rfl⟩, ⟨rfl, rfl, rfl⟩, rfl, rfl⟩ := e
  have hcap : l.length ≤ c0 := by
    obtain ⟨_, ⟨e, h0⟩ | ⟨g, cap, cur, e, _, _, h3, _⟩⟩ := h.vis.outer
    · omega
    · cases e; omega
  exact ⟨l, g, E, A, rfl, hv, hn, hcap, rfl, h1, rfl, h2, rfl, h3, rfl, h4, rfl, h5, rfl, rfl, h.zero, h.tale, h.short, h.stop⟩
theorem own_nilC {w : World} {base s n c : Nat} {e : TypeId} {a : Option Addr} {xs : List Value} (h : w.ownsRow base e s (.slice a n c) n xs) : a = none → n = 0 ∧ c = 0 := by
  rintro rfl
  obtain ⟨_, ⟨e, h2⟩ | ⟨g, cap, cur, e, _⟩⟩ := h
  · injection e with _ e2 e3; exact ⟨e2, e3⟩
  · cases e
theorem RulV.reads {r : Rul} {a : Option Addr} {n c s : Nat} {fi ro : Int} {eq : Bool} {w : World} (h : RulV r (.agg #[.slice a n c, .int .i64 fi, .int .i64 ro, .bool eq]) s w) : CntsAt w a r.counts ∧ (a = none → r.counts.length = 0 ∧ c = 0) := by
  obtain ⟨a', c', e, h⟩ := h
  simp only [Value.agg.injEq, Array.mk.injEq, List.cons.injEq, Value.slice.injEq, Value.int.injEq, Value.bool.injEq, and_true, true_and] at e
  obtain ⟨⟨rfl, rfl, rfl⟩, rfl, rfl, rfl⟩ := e
  exact ⟨CntsAt.of_own h, own_nilC h⟩
def RulS (r : Rul) (v : Value) : Prop := ∃ a c, v = .agg #[.slice a r.counts.length c, .int .i64 r.first, .int .i64 r.rounds, .bool r.equal]
def rulW (r : Rul) : Value := .agg #[.slice none r.counts.length 0, .int .i64 r.first, .int .i64 r.rounds, .bool r.equal]
theorem rulW_shape (r : Rul) : RulS r (rulW r) := ⟨_, _, rfl⟩
theorem RulV.shape {r : Rul} {v : Value} {s : Nat} {w : World} (h : RulV r v s w) : RulS r v := let ⟨a, c, e, _⟩ := h; ⟨a, c, e⟩
/-- Copies of visits, wherever they lie; a leg that was judged. -/
def VisV (l : List LV) (v : Value) (s : Nat) (w : World) : Prop := ∃ us, VisO w s v l us
theorem VisV.chg {l : List LV} {v : Value} {s : Nat} {w w' : World} (h : VisV l v s w) {S : Nat → Prop} (hx : Chg S w w') (hS : ∀ k, S k → k < s) : VisV l v s w' := by
  obtain ⟨us, h⟩ := h
  exact ⟨us, h.chg hx (fun k hk hs => by have := hS k hs; have := (own_lt h.outer k hk).1; omega) (fun u hu k hk hs => by have := hS k hs; have := (h.lts u hu k hk).1; omega)⟩
theorem VisV.shape {l : List LV} {v : Value} {s : Nat} {w : World} (h : VisV l v s w) : ∃ a c, v = .slice a l.length c := let ⟨_, h⟩ := h; own_shape h.outer
def StS (v : Value) : Prop := ∃ a0 a1 a2 a3 n0 n1 n2 n3 c0 c1 c2 c3 nx rd ov, v = .agg #[.slice a0 n0 c0, .slice a1 n1 c1, .slice a2 n2 c2, .int .i64 nx, .int .i64 rd, .bool ov, .slice a3 n3 c3]
theorem StAt.shape' {w : World} {base : Nat} {v : Value} {g : Gm} (h : StAt w base v g) : StS v := by
  obtain ⟨lv, dv, iv, wv, rfl, h0, h1, h2, h3⟩ := h
  obtain ⟨a0, c0, rfl⟩ := own_shape h0
  obtain ⟨a1, c1, rfl⟩ := own_shape h1
  obtain ⟨a2, c2, rfl⟩ := own_shape h2
  obtain ⟨a3, c3, rfl⟩ := own_shape h3
  exact ⟨_, _, _, _, _, _, _, _, _, _, _, _, _, _, _, rfl⟩
theorem StAt.chg {w w' : World} {base : Nat} {v : Value} {g : Gm} (h : StAt w base v g) {S : Nat → Prop} (hx : Chg S w w') (hS : ∀ k, S k → k < base) : StAt w' base v g := by
  have key : ∀ {e : TypeId} {size n : Nat} {v : Value} {xs : List Value}, w.ownsRow base e size v n xs → ∀ k, v.ownBlock = some k → ¬ S k := fun h k hk hs => by have := hS k hs; have := (own_lt h k hk).1; omega
  obtain ⟨lv, dv, iv, wv, rfl, h0, h1, h2, h3⟩ := h
  exact ⟨lv, dv, iv, wv, rfl, h0.chg hx (key h0), h1.chg hx (key h1), h2.chg hx (key h2), h3.chg hx (key h3)⟩
def JudV (S : Gm × List Flt × Int) (v : Value) (s : Nat) (w : World) : Prop := ∃ v1 fv, v = .tuple #[v1, fv, .int .i64 S.2.2] ∧ StAt w s v1 S.1 ∧ OwnF w s fv S.2.1
theorem JudV.chg {S' : Gm × List Flt × Int} {v : Value} {s : Nat} {w w' : World} (h : JudV S' v s w) {S : Nat → Prop} (hx : Chg S w w') (hS : ∀ k, S k → k < s) : JudV S' v s w' := by
  obtain ⟨v1, fv, e, h1, h2⟩ := h
  exact ⟨v1, fv, e, h1.chg hx hS, own_chg h2 hx (fun k hk hs => by have := hS k hs; have := (own_lt h2 k hk).1; omega)⟩
def JudS (n : Nat) (er : Int) (v : Value) : Prop := ∃ a0 a1 a2 a3 n0 n1 n2 n3 c0 c1 c2 c3 nx rd ov fa fc, v = .tuple #[.agg #[.slice a0 n0 c0, .slice a1 n1 c1, .slice a2 n2 c2, .int .i64 nx, .int .i64 rd, .bool ov, .slice a3 n3 c3], .slice fa n fc, .int .i64 er]
theorem JudV.shape {S : Gm × List Flt × Int} {v : Value} {s : Nat} {w : World} (h : JudV S v s w) : JudS S.2.1.length S.2.2 v := by
  obtain ⟨v1, fv, rfl, h1, h2⟩ := h
  obtain ⟨a0, a1, a2, a3, n0, n1, n2, n3, c0, c1, c2, c3, nx, rd, ov, rfl⟩ := h1.shape'
  obtain ⟨fa, fc, rfl⟩ := own_shape h2
  exact ⟨_, _, _, _, _, _, _, _, _, _, _, _, _, _, _, _, _, rfl⟩
def judW (n : Nat) (er : Int) : Value := .tuple #[.agg #[.slice none 0 0, .slice none 0 0, .slice none 0 0, .int .i64 0, .int .i64 0, .bool false, .slice none 0 0], .slice none n 0, .int .i64 er]
theorem judW_shape (n : Nat) (er : Int) : JudS n er (judW n er) := ⟨_, _, _, _, _, _, _, _, _, _, _, _, _, _, _, _, _, rfl⟩
def visW (l : List LV) : Value := .slice none l.length 0
/-- A row of copies with one more at its end, whose beds lie elsewhere. -/
def Res.visP (base : Nat) (v : Value) (l : List LV) (us : List Value) (p : Int) (bv : Value) : Res :=
  ⟨fun k => v.ownBlock = some k ∨ ∃ u ∈ us, u.ownBlock = some k, fun w => w.ownsRow base 84 2 v (l.length + 1) (lvC l us ++ [.int .i64 p, bv]) ∧ us.length = l.length ∧ ∀ i, (h : i < l.length) → ∃ u, us[i]? = some u ∧ w.ownsRow base 34 1 u l[i].beds.length (l[i].beds.map (Value.int .i64)), fun w w' h hw =>
    ⟨(Res.own base 84 2 v (l.length + 1) (lvC l us ++ [.int .i64 p, bv])).stable w w' (fun k hk => h k (.inl hk)) hw.1, hw.2.1, fun i hi => let ⟨u, e, o⟩ := hw.2.2 i hi
      ⟨u, e, (Res.own base 34 1 u l[i].beds.length (l[i].beds.map (Value.int .i64))).stable w w' (fun k hk => h k (.inr ⟨u, List.mem_of_getElem? e, hk⟩)) o⟩⟩⟩
theorem VisO.close {w : World} {base base' : Nat} {v : Value} {l : List LV} {us : List Value} {p : Int} {bv : Value} {bs : List Int} (h : (Res.visP base' v l us p bv).A w) (hb : base ≤ base') (hbv : w.ownsRow base 34 1 bv bs.length (bs.map (Value.int .i64))) : VisO w base v (l ++ [⟨p, bs⟩]) (us ++ [bv]) := by
  obtain ⟨h1, h2, h3⟩ := h
  refine ⟨?_, by simp [h2], fun i hi => ?_⟩
  · rw [lvC_append _ _ _ _ h2, List.length_append]
    exact own_mono h1 hb
  · by_cases hil : i < l.length
    · obtain ⟨u', e, o⟩ := h3 i hil
      refine ⟨u', by rw [List.getElem?_append_left (by rw [h2]; exact hil)]; exact e, ?_⟩
      rw [List.getElem_append_left hil]
      exact own_mono o hb
    · obtain rfl : i = l.length := by simp at hi; omega
      refine ⟨bv, by rw [List.getElem?_append_right (by rw [h2]; omega), h2]; simp, ?_⟩
      rw [List.getElem_append_right (by omega)]
      simp only [Nat.sub_self, List.getElem_cons_zero]
      exact hbv
theorem lvC_appendL : ∀ (l : List LV) (us : List Value) (l2 : List LV) (us2 : List Value), us.length = l.length → lvC (l ++ l2) (us ++ us2) = lvC l us ++ lvC l2 us2
  | [], [], _, _, _ => rfl
  | [], _ :: _, _, _, h => by simp at h
  | _ :: _, [], _, _, h => by simp at h
  | x :: l, y :: us, l2, us2, h => by simp only [List.cons_append, lvC, lvC_appendL l us l2 us2 (by simpa using h)]
theorem VisO.many {w w' : World} {base : Nat} {v v' : Value} {l l2 : List LV} {us us2 : List Value} (h : VisO w base v l us) (h2 : us2.length = l2.length) (hi2 : ∀ i, (h : i < l2.length) → ∃ u, us2[i]? = some u ∧ w.ownsRow base 34 1 u l2[i].beds.length (l2[i].beds.map (Value.int .i64)))
    (ho : w'.ownsRow base 84 2 v' (l.length + l2.length) (lvC l us ++ lvC l2 us2)) (hC : Chg (fun k => v.ownBlock = some k) w w') : VisO w' base v' (l ++ l2) (us ++ us2) := by
  refine ⟨?_, by simp [h.len, h2], fun i hi => ?_⟩
  · rw [lvC_appendL _ _ _ _ h.len, List.length_append]; exact ho
  · by_cases hil : i < l.length
    · obtain ⟨u', e, o⟩ := h.inner i hil
      refine ⟨u', by rw [List.getElem?_append_left (by rw [h.len]; exact hil)]; exact e, ?_⟩
      rw [List.getElem_append_left hil]
      exact own_chg o hC (fun j hj e => own_ne o h.outer (by decide) j hj e)
    · obtain ⟨u', e, o⟩ := hi2 (i - l.length) (by simp at hi; omega)
      refine ⟨u', by rw [List.getElem?_append_right (by rw [h.len]; omega), h.len]; exact e, ?_⟩
      rw [List.getElem_append_right (by omega)]
      exact own_chg o hC (fun j hj e => own_ne o h.outer (by decide) j hj e)
theorem lvC_one {w : World} {base : Nat} {v : Value} {l : List LV} {us : List Value} (h : VisO w base v l us) : ∀ u ∈ lvC l us, u.oneCell' = true := by
  have key : ∀ (l : List LV) (us : List Value), (∀ u ∈ us, u.oneCell' = true) → ∀ u ∈ lvC l us, u.oneCell' = true := by
    intro l
    induction l with
    | nil => intro us _ u hu; cases us <;> cases hu
    | cons x l ih =>
      intro us hus u hu
      cases us with
      | nil => cases hu
      | cons y us =>
        simp only [lvC, List.mem_cons] at hu
        rcases hu with rfl | rfl | hu
        · rfl
        · exact hus _ List.mem_cons_self
        · exact ih us (fun z hz => hus z (List.mem_cons_of_mem _ hz)) u hu
  refine key l us fun u hu => ?_
  obtain ⟨i, hi, rfl⟩ := List.mem_iff_getElem.1 hu
  obtain ⟨u', e, o⟩ := h.inner i (by rw [← h.len]; exact hi)
  rw [List.getElem?_eq_getElem hi] at e
  cases e
  obtain ⟨a, c, e⟩ := own_shape o
  rw [e]; rfl
theorem VisIn.take {w : World} {a : Option Addr} {l : List LV} (h : VisIn w a l) (i : Nat) : VisIn w a (l.take i) := fun j hj => by
  rw [List.length_take] at hj
  obtain ⟨b, o, ba, bc, e, p0, p1, p2, p3⟩ := h j (by omega)
  refine ⟨b, o, ba, bc, e, ?_⟩
  rw [List.getElem_take]
  exact ⟨p0, p1, p2, p3⟩
theorem VisIn.drop {w : World} {b o : Nat} {l : List LV} (h : VisIn w (some ⟨b, o, none⟩) l) (i : Nat) : VisIn w (some ⟨b, o + i * 2, none⟩) (l.drop i) := fun j hj => by
  rw [List.length_drop] at hj
  obtain ⟨b', o', ba, bc, e, p0, p1, p2, p3⟩ := h (i + j) (by omega)
  cases e
  refine ⟨b, o + i * 2, ba, bc, rfl, ?_⟩
  rw [List.getElem_drop]
  rw [show o + (i + j) * 2 = o + i * 2 + j * 2 by omega] at p0 p1
  exact ⟨p0, p1, p2, p3⟩
theorem own_shrink {w : World} {base g n m c : Nat} {e : TypeId} {xs : List Value} (h : w.ownsRow base e 1 (.slice (some ⟨g, 0, none⟩) n c) n xs) (hm : m ≤ n) : w.ownsRow base e 1 (.slice (some ⟨g, 0, none⟩) m c) m (xs.take m) := by
  obtain ⟨h1, ⟨e0, _⟩ | ⟨g', cap, cur, e0, h2, h3, h4, h5, h6, h7⟩⟩ := h
  · cases e0
  · cases e0
    refine ⟨by rw [List.length_take]; omega, .inr ⟨g, c, cur, rfl, h2, h3, by omega, h5, h6, ?_⟩⟩
    rw [← h7, List.take_take]
    congr 1
    omega
theorem JudV.reads {g : Gm} {fs : List Flt} {er er' : Int} {a0 a1 a2 a3 fa : Option Addr} {n0 n1 n2 n3 c0 c1 c2 c3 n fc s : Nat} {nx rd : Int} {ov : Bool} {w : World} (h : JudV (g, fs, er) (.tuple #[.agg #[.slice a0 n0 c0, .slice a1 n1 c1, .slice a2 n2 c2, .int .i64 nx, .int .i64 rd, .bool ov, .slice a3 n3 c3], .slice fa n fc, .int .i64 er']) s w) :
    n0 = g.left.length ∧ CellsAt w .i64 a0 g.left ∧ ov = g.over := by
  obtain ⟨v1, fv, e, h1, h2⟩ := h
  obtain ⟨b0, b1, b2, b3, d0, d1, d2, d3, hR⟩ := h1.reads
  obtain rfl := hR.shape
  simp only [Value.tuple.injEq, Value.agg.injEq, Array.mk.injEq, List.cons.injEq, Value.slice.injEq, Value.int.injEq, Value.bool.injEq, and_true, true_and] at e
  obtain ⟨⟨⟨rfl, rfl, rfl⟩, -, -, -, -, rfl, -⟩, -⟩ := e
  exact ⟨rfl, hR.left, rfl⟩
theorem wrap64_nat {m : Nat} (h : m ≤ 1000) : wrap64 (m : Int) = (m : Int) := wrap64_in' ⟨by omega, by omega⟩
theorem wrap64_nat' {m : Nat} (h : m ≤ 1000) : (wrap64 (m : Int)).toNat = m := by rw [wrap64_nat h]; simp
end Go.Proofs.Ytocnglplhnhllaa
namespace Go.Proofs.Ytocnglplhnhllaa
open Go.RowKit Go.BigFrame
def PlaV (S : Gm × Int × Int) (v : Value) (s : Nat) (w : World) : Prop := ∃ v1, v = .tuple #[v1, .int .i64 S.2.1, .int .i64 S.2.2] ∧ StAt w s v1 S.1
theorem PlaV.chg {S' : Gm × Int × Int} {v : Value} {s : Nat} {w w' : World} (h : PlaV S' v s w) {S : Nat → Prop} (hx : Chg S w w') (hS : ∀ k, S k → k < s) : PlaV S' v s w' := by
  obtain ⟨v1, e, h1⟩ := h
  exact ⟨v1, e, h1.chg hx hS⟩
def PlaS (i er : Int) (v : Value) : Prop := ∃ a0 a1 a2 a3 n0 n1 n2 n3 c0 c1 c2 c3 nx rd ov, v = .tuple #[.agg #[.slice a0 n0 c0, .slice a1 n1 c1, .slice a2 n2 c2, .int .i64 nx, .int .i64 rd, .bool ov, .slice a3 n3 c3], .int .i64 i, .int .i64 er]
theorem PlaV.shape {S : Gm × Int × Int} {v : Value} {s : Nat} {w : World} (h : PlaV S v s w) : PlaS S.2.1 S.2.2 v := by
  obtain ⟨v1, rfl, h1⟩ := h
  obtain ⟨a0, a1, a2, a3, n0, n1, n2, n3, c0, c1, c2, c3, nx, rd, ov, rfl⟩ := h1.shape'
  exact ⟨_, _, _, _, _, _, _, _, _, _, _, _, _, _, _, rfl⟩
def plaW (i er : Int) : Value := .tuple #[.agg #[.slice none 0 0, .slice none 0 0, .slice none 0 0, .int .i64 0, .int .i64 0, .bool false, .slice none 0 0], .int .i64 i, .int .i64 er]
theorem plaW_shape (i er : Int) : PlaS i er (plaW i er) := ⟨_, _, _, _, _, _, _, _, _, _, _, _, _, _, _, rfl⟩
theorem PlaV.reads {g : Gm} {i er i' er' : Int} {a0 a1 a2 a3 : Option Addr} {n0 n1 n2 n3 c0 c1 c2 c3 s : Nat} {nx rd : Int} {ov : Bool} {w : World} (h : PlaV (g, i, er) (.tuple #[.agg #[.slice a0 n0 c0, .slice a1 n1 c1, .slice a2 n2 c2, .int .i64 nx, .int .i64 rd, .bool ov, .slice a3 n3 c3], .int .i64 i', .int .i64 er']) s w) :
    (n0 = g.left.length ∧ CellsAt w .i64 a0 g.left) ∧ (n1 = g.darts.length ∧ CellsAt w .i64 a1 g.darts) ∧ (n2 = g.inn.length ∧ BoolsAt w a2 g.inn) ∧ (n3 = g.winners.length ∧ CellsAt w .i64 a3 g.winners) ∧ nx = g.next ∧ rd = g.round ∧ ov = g.over := by
  obtain ⟨v1, e, h1⟩ := h
  obtain ⟨b0, b1, b2, b3, d0, d1, d2, d3, hR⟩ := h1.reads
  obtain rfl := hR.shape
  simp only [Value.tuple.injEq, Value.agg.injEq, Array.mk.injEq, List.cons.injEq, Value.slice.injEq, Value.int.injEq, Value.bool.injEq, and_true, true_and] at e
  obtain ⟨⟨⟨rfl, rfl, rfl⟩, ⟨rfl, rfl, rfl⟩, ⟨rfl, rfl, rfl⟩, rfl, rfl, rfl, ⟨rfl, rfl, rfl⟩⟩, -⟩ := e
  exact ⟨⟨rfl, hR.left⟩, ⟨rfl, hR.darts⟩, ⟨rfl, hR.inn⟩, ⟨rfl, hR.winners⟩, rfl, rfl, rfl⟩
end Go.Proofs.Ytocnglplhnhllaa
