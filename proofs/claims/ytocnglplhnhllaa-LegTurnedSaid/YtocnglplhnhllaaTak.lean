/-
  Chapter 3, Hand.tale: what lies in memory while a leg is told.
-/
import Derived.Test.YtocnglplhnhllaaTai
import Derived.Test.YtocnglplhnhllaaVit
import Derived.Deep.DeepCutAuto
import Derived.Deep.CutBlock
namespace Go.Proofs.Ytocnglplhnhllaa
open Go.RowKit Go.BigFrame
/-- Copies of visits, as one thing. -/
def Res.vis (base : Nat) (v : Value) (l : List LV) (us : List Value) : Res :=
  ⟨fun k => v.ownBlock = some k ∨ ∃ u ∈ us, u.ownBlock = some k, fun w => VisO w base v l us, fun w w' h hw =>
    ⟨(Res.own base 84 2 v l.length (lvC l us)).stable w w' (fun k hk => h k (.inl hk)) hw.outer, hw.len, fun i hi => let ⟨u, e, o⟩ := hw.inner i hi
      ⟨u, e, (Res.own base 34 1 u l[i].beds.length (l[i].beds.map (Value.int .i64))).stable w w' (fun k hk => h k (.inr ⟨u, List.mem_of_getElem? e, hk⟩)) o⟩⟩⟩
theorem VisO.none (w : World) (base : Nat) : VisO w base (.slice none 0 0) [] [] := ⟨World.ownsRow_nil _ _ _ _, rfl, fun i hi => absurd hi (by simp)⟩
theorem VisO.pushC {w w' : World} {base : Nat} {v v' : Value} {l : List LV} {us : List Value} (h : VisO w base v l us) {x : LV} {u : Value} (hu : w.ownsRow base 34 1 u x.beds.length (x.beds.map (Value.int .i64)))
    (ho : w'.ownsRow base 84 2 v' (l.length + 1) (lvC l us ++ [.int .i64 x.player, u])) (hC : Chg (fun k => v.ownBlock = some k) w w') : VisO w' base v' (l ++ [x]) (us ++ [u]) := by
  refine ⟨?_, by simp [h.len], fun i hi => ?_⟩
  · rw [lvC_append _ _ _ _ h.len, List.length_append]; exact ho
  · by_cases hil : i < l.length
    · obtain ⟨u', e, o⟩ := h.inner i hil
      refine ⟨u', by rw [List.getElem?_append_left (by rw [h.len]; exact hil)]; exact e, ?_⟩
      rw [List.getElem_append_left hil]
      exact own_chg o hC (fun j hj e => own_ne o h.outer (by decide) j hj e)
    · obtain rfl : i = l.length := by simp at hi; omega
      refine ⟨u, by rw [List.getElem?_append_right (by rw [h.len]; omega), h.len]; simp, ?_⟩
      rw [List.getElem_append_right (by omega)]
      simp only [Nat.sub_self, List.getElem_cons_zero]
      exact own_chg hu hC (fun j hj e => own_ne hu h.outer (by decide) j hj e)
/-- Two lists of things of one's own, the second one newer. -/
theorem Frm.both {lo : Nat} {rs rs' : List Res} {w w' : World} (h : Frm lo rs w) (hx : Ext w w') (hlo : lo ≤ w.heap.size) (h' : Frm w.heap.size rs' w') : Frm lo (rs ++ rs') w' := by
  have key : ∀ (i : Nat) (r : Res), (rs ++ rs')[i]? = some r → rs[i]? = some r ∨ (rs.length ≤ i ∧ rs'[i - rs.length]? = some r) := by
    intro i r hr
    by_cases hi : i < rs.length
    · rw [List.getElem?_append_left hi] at hr; exact .inl hr
    · rw [List.getElem?_append_right (by omega)] at hr; exact .inr ⟨by omega, hr⟩
  refine ⟨fun i r hr => ?_, fun i j r s hi hj hij k hk hk' => ?_⟩
  · rcases key i r hr with h1 | ⟨_, h1⟩
    · exact (h.ext hx).each i r h1
    · have h2 := h'.each _ r h1
      exact ⟨h2.1, fun k hk => by have := h2.2 k hk; omega⟩
  · rcases key i r hi with h1 | ⟨h0, h1⟩
    · rcases key j s hj with h2 | ⟨_, h2⟩
      · exact h.parts i j r s h1 h2 hij k hk hk'
      · have := h.lt i h1 k hk
        have := h'.lt _ h2 k hk'
        omega
    · rcases key j s hj with h2 | ⟨h3, h2⟩
      · have := h.lt j h2 k hk'
        have := h'.lt _ h1 k hk
        omega
      · exact h'.parts _ _ r s h1 h2 (by omega) k hk hk'
theorem Frm.left {lo : Nat} {rs rs' : List Res} {w : World} (h : Frm lo (rs ++ rs') w) : Frm lo rs w := by
  have key : ∀ (i : Nat) (r : Res), rs[i]? = some r → (rs ++ rs')[i]? = some r := fun i r hr => by
    rw [List.getElem?_append_left (List.getElem?_eq_some_iff.1 hr).1]; exact hr
  exact ⟨fun i r hr => h.each i r (key i r hr), fun i j r s hi hj => h.parts i j r s (key i r hi) (key j s hj)⟩
/-- One more that holds nothing. -/
theorem Frm.more {lo : Nat} {rs : List Res} {w : World} (h : Frm lo rs w) {r : Res} (hr : r.A w) (hf : ∀ k, ¬ r.fp k) : Frm lo (rs ++ [r]) w := by
  have key : ∀ (i : Nat) (s : Res), (rs ++ [r])[i]? = some s → rs[i]? = some s ∨ s = r := by
    intro i s hs
    by_cases hi : i < rs.length
    · rw [List.getElem?_append_left hi] at hs; exact .inl hs
    · have := List.mem_of_getElem? hs
      rw [List.getElem?_append_right (by omega)] at hs
      exact .inr (List.mem_singleton.1 (List.mem_of_getElem? hs))
  refine ⟨fun i s hs => ?_, fun i j s t hi hj hij k hk hk' => ?_⟩
  · rcases key i s hs with h1 | rfl
    · exact h.each i s h1
    · exact ⟨hr, fun k hk => (hf k hk).elim⟩
  · rcases key i s hi with h1 | rfl
    · rcases key j t hj with h2 | rfl
      · exact h.parts i j s t h1 h2 hij k hk hk'
      · exact hf k hk'
    · exact hf k hk
def ptrOf : Value → Nat
  | .pointer (some ⟨k, _, _⟩) => k
  | _ => 0
theorem eight_set {w : World} {b : Nat} {v0 v1 v2 v3 v4 v5 v6 v7 : Value} (h : Blk w b #[v0, v1, v2, v3, v4, v5, v6, v7]) (x0 x1 x2 x3 x4 x5 x6 x7 : Value) :
    Blk ((((((((w.setCell ⟨b, 0, none⟩ x0).setCell ⟨b, 1, none⟩ x1).setCell ⟨b, 2, none⟩ x2).setCell ⟨b, 3, none⟩ x3).setCell ⟨b, 4, none⟩ x4).setCell ⟨b, 5, none⟩ x5).setCell ⟨b, 6, none⟩ x6).setCell ⟨b, 7, none⟩ x7) b #[x0, x1, x2, x3, x4, x5, x6, x7] := by
  have h0 : Blk _ b #[x0, v1, v2, v3, v4, v5, v6, v7] := h.set 0 x0
  have h1 : Blk _ b #[x0, x1, v2, v3, v4, v5, v6, v7] := h0.set 1 x1
  have h2 : Blk _ b #[x0, x1, x2, v3, v4, v5, v6, v7] := h1.set 2 x2
  have h3 : Blk _ b #[x0, x1, x2, x3, v4, v5, v6, v7] := h2.set 3 x3
  have h4 : Blk _ b #[x0, x1, x2, x3, x4, v5, v6, v7] := h3.set 4 x4
  have h5 : Blk _ b #[x0, x1, x2, x3, x4, x5, v6, v7] := h4.set 5 x5
  have h6 : Blk _ b #[x0, x1, x2, x3, x4, x5, x6, v7] := h5.set 6 x6
  have h7 : Blk _ b #[x0, x1, x2, x3, x4, x5, x6, x7] := h6.set 7 x7
  exact h7
theorem eight_chg (S : Nat → Prop) (w : World) {b : Nat} (hb : S b) (x0 x1 x2 x3 x4 x5 x6 x7 : Value) :
    Chg S w ((((((((w.setCell ⟨b, 0, none⟩ x0).setCell ⟨b, 1, none⟩ x1).setCell ⟨b, 2, none⟩ x2).setCell ⟨b, 3, none⟩ x3).setCell ⟨b, 4, none⟩ x4).setCell ⟨b, 5, none⟩ x5).setCell ⟨b, 6, none⟩ x6).setCell ⟨b, 7, none⟩ x7) :=
  ((((((((Chg.refl S w).setCell (.inr hb) x0).setCell (.inr hb) x1).setCell (.inr hb) x2).setCell (.inr hb) x3).setCell (.inr hb) x4).setCell (.inr hb) x5).setCell (.inr hb) x6).setCell (.inr hb) x7
theorem three_set {w : World} {b : Nat} {v0 v1 v2 : Value} (h : Blk w b #[v0, v1, v2]) (x0 x1 x2 : Value) : Blk (((w.setCell ⟨b, 0, none⟩ x0).setCell ⟨b, 1, none⟩ x1).setCell ⟨b, 2, none⟩ x2) b #[x0, x1, x2] := by
  have h0 : Blk _ b #[x0, v1, v2] := h.set 0 x0
  have h1 : Blk _ b #[x0, x1, v2] := h0.set 1 x1
  have h2 : Blk _ b #[x0, x1, x2] := h1.set 2 x2
  exact h2
theorem three_chg (S : Nat → Prop) (w : World) {b : Nat} (hb : S b) (x0 x1 x2 : Value) : Chg S w (((w.setCell ⟨b, 0, none⟩ x0).setCell ⟨b, 1, none⟩ x1).setCell ⟨b, 2, none⟩ x2) := (((Chg.refl S w).setCell (.inr hb) x0).setCell (.inr hb) x1).setCell (.inr hb) x2
theorem two_set {w : World} {b : Nat} {v0 v1 : Value} (h : Blk w b #[v0, v1]) (x0 x1 : Value) : Blk ((w.setCell ⟨b, 0, none⟩ x0).setCell ⟨b, 1, none⟩ x1) b #[x0, x1] := by
  have h0 : Blk _ b #[x0, v1] := h.set 0 x0
  have h1 : Blk _ b #[x0, x1] := h0.set 1 x1
  exact h1
theorem two_chg (S : Nat → Prop) (w : World) {b : Nat} (hb : S b) (x0 x1 : Value) : Chg S w ((w.setCell ⟨b, 0, none⟩ x0).setCell ⟨b, 1, none⟩ x1) := ((Chg.refl S w).setCell (.inr hb) x0).setCell (.inr hb) x1
theorem aft_join {ks : List Knd} {i lo : Nat} {rs rs' : List Res} {w0 w' : World} {v : Value} (x : Lat (fun b _ => lo ≤ b) w0) (hlo : lo ≤ w0.heap.size) (hk : (kAt ks i).ok v) (h : Frm lo rs x.world) (q p : Nat) (hqp : q ≠ p) {r s r' : Res} (hq : rs[q]? = some r) (hp : rs[p]? = some s) {S : Nat → Prop} (hx : Chg S x.world w') (hS : ∀ k, S k → r.fp k) (ha : r'.A w')
    (hf : ∀ k, r'.fp k → r.fp k ∨ s.fp k ∨ (x.world.heap.size ≤ k ∧ k < w'.heap.size)) (he : (rs.set p Res.none).set q r' = rs') : (kAt ks i).ok v ∧ (∃ y : Lat (fun b _ => lo ≤ b) w0, w' = y.world) ∧ Frm lo rs' w' :=
  have hx' : Chg r.fp x.world w' := hx.mono fun k _ hk => hS k hk
  ⟨hk, ⟨x.chgd hx' (fun k hk => .inr fun _ => (h.lt q hq k hk).1), rfl⟩, he ▸ h.join q p hqp hq hp hx' ha hf (Nat.le_trans hlo x.size)⟩
/-- A cell of a row of one's own is written. -/
theorem aft_cell {ks : List Knd} {i lo base g n c m j : Nat} {e : TypeId} {xs : List Value} {rs rs' : List Res} {w0 : World} {u v : Value} (x : Lat (fun b _ => lo ≤ b) w0) (hlo : lo ≤ w0.heap.size) (hk : (kAt ks i).ok u) (h : Frm lo rs x.world) (q : Nat) (hq : rs[q]? = some (Res.own base e 1 (.slice (some ⟨g, 0, none⟩) n c) n xs))
    (hj : j = m) (he : rs.set q (Res.own base e 1 (.slice (some ⟨g, 0, none⟩) n c) n (xs.set m v)) = rs') :
    (kAt ks i).ok u ∧ (∃ y : Lat (fun b _ => lo ≤ b) w0, x.world.setCell ⟨g, j, none⟩ v = y.world) ∧ Frm lo rs' (x.world.setCell ⟨g, j, none⟩ v) := by
  subst hj
  exact aft_set x hlo hk h q hq (Chg.setCell (S := fun k => (Value.slice (some ⟨g, 0, none⟩) n c).ownBlock = some k) (Chg.refl _ _) (p := ⟨g, j, none⟩) (.inr rfl) v) (r' := Res.own base e 1 (.slice (some ⟨g, 0, none⟩) n c) n (xs.set j v)) (own_set (h.get q hq) v) (fun _ hk => .inl hk) he
/-- The rules of a hand are valid. -/
theorem Hnd.rul_ok {H : Hnd} (hf : H.fits) (h0 : 0 < H.counts.length) : H.rul.ok = true := by
  have hl := H.counts_length
  obtain ⟨g0, g1⟩ := hf.gates
  obtain ⟨r0, r1⟩ := hf.rounds
  have hm := Int.emod_nonneg H.first (by omega : (H.counts.length : Int) ≠ 0)
  have hm2 := Int.emod_lt_of_pos H.first (by omega : (0 : Int) < H.counts.length)
  unfold Rul.ok Hnd.rul
  simp only [if_pos h0, Bool.and_eq_true, Bool.not_eq_true', List.any_eq_false, ins_one]
  refine ⟨⟨⟨by omega, fun c hc => ?_⟩, by omega⟩, by omega⟩
  obtain ⟨s, hs, rfl⟩ := List.mem_map.1 hc
  have := hf.starts s (List.mem_of_mem_take hs)
  have hc' : (H.count s).ok = true := by
    unfold Cnt.ok Hnd.count cntB
    simp only [Bool.and_eq_true, ins_one]
    omega
  simp [hc']
/-- The tale of a hand. -/
structure TalP (H : Hnd) (base : Nat) (l : List LV) (us : List Value) (g : Gm) (E A : List Int) (vv lv tv iv ev av : Value) (w : World) : Prop where
  zero : H.counts.length = 0 → l = [] ∧ g = Gm.begin H.rul ∧ E = [] ∧ A = []
  tale : 0 < H.counts.length → TalI H.rul l g E A
  vis : VisO w base vv l us
  left : OwnI w base lv g.left
  darts : OwnI w base tv g.darts
  inn : OwnB w base iv g.inn
  ended : OwnI w base ev E
  lasts : OwnI w base av A
  short : l.length ≤ 60
  stop : 0 < H.counts.length → g.over = true ∨ l.length = 60
/-- What is so of a leg that is told, with or without players. -/
structure TalJ (r : Rul) (l : List LV) (g : Gm) (E A : List Int) : Prop where
  zero : r.counts.length = 0 → l = [] ∧ g = Gm.begin r ∧ E = [] ∧ A = []
  tale : 0 < r.counts.length → TalI r l g E A
  left : g.left.length = r.counts.length
  darts : g.darts.length = r.counts.length
  inn : g.inn.length = r.counts.length
theorem TalJ.begin {r : Rul} (h : 0 < r.counts.length → r.ok = true) : TalJ r [] (Gm.begin r) [] [] := ⟨fun _ => ⟨rfl, rfl, rfl, rfl⟩, fun h0 => TalI.begin (h h0), by simp [Gm.begin], by simp [Gm.begin], by simp [Gm.begin]⟩
theorem Frm.low {lo : Nat} {rs : List Res} {w w' : World} (h : Frm lo rs w) {S : Nat → Prop} (hx : Chg S w w') (hS : ∀ k, S k → k < lo) : Frm lo rs w' :=
  ⟨fun i r hr => let h1 := h.each i r hr; ⟨r.stable _ _ (fun k hk => hx.block k (h1.2 k hk).2 fun hs => by have := hS k hs; have := (h1.2 k hk).1; omega) h1.1, fun k hk => by have := h1.2 k hk; have := hx.size; omega⟩, h.parts⟩
theorem VisO.mono {w : World} {base base' : Nat} {v : Value} {l : List LV} {us : List Value} (h : VisO w base v l us) (hb : base' ≤ base) : VisO w base' v l us :=
  ⟨own_mono h.outer hb, h.len, fun i hi => let ⟨u, e, o⟩ := h.inner i hi; ⟨u, e, own_mono o hb⟩⟩
theorem own_pos {w : World} {base size n : Nat} {e : TypeId} {v : Value} {xs : List Value} (h : w.ownsRow base e size v n xs) (hn : 0 < n) : ∃ g c, v = .slice (some ⟨g, 0, none⟩) n c ∧ base ≤ g ∧ g < w.heap.size := by
  have hl := fun g => World.ownsRow.lt h g
  obtain ⟨_, ⟨_, h0⟩ | ⟨g, cap, cur, rfl, _⟩⟩ := h
  · omega
  · exact ⟨g, cap, rfl, hl g rfl⟩
theorem own_int_at {w : World} {base g n c : Nat} {e : TypeId} {xs : List Int} (h : w.ownsRow base e 1 (.slice (some ⟨g, 0, none⟩) n c) n (xs.map (Value.int .i64))) {i : Nat} (hi : i < xs.length) : w.cell? ⟨g, i, none⟩ = some (.int .i64 xs[i]) := by
  have hl : xs.length = n * 1 := by simpa using h.1
  rw [World.ownsRow.cellAt h i (by omega)]
  simp [hi]
theorem own_bool_at {w : World} {base g n c : Nat} {e : TypeId} {xs : List Bool} (h : w.ownsRow base e 1 (.slice (some ⟨g, 0, none⟩) n c) n (xs.map Value.bool)) {i : Nat} (hi : i < xs.length) : w.cell? ⟨g, i, none⟩ = some (.bool xs[i]) := by
  have hl : xs.length = n * 1 := by simpa using h.1
  rw [World.ownsRow.cellAt h i (by omega)]
  simp [hi]
theorem Frm.store {lo b j : Nat} {cs : Array Value} {rs : List Res} {w : World} (h : Frm lo rs w) (q : Nat) (hq : rs[q]? = some (Res.blk b cs)) (v : Value) (hlo : lo ≤ w.heap.size) : Frm lo (rs.set q (Res.blk b (cs.setIfInBounds j v))) (w.setCell ⟨b, j, none⟩ v) :=
  h.set q hq (Chg.setCell (S := fun k => k = b) (Chg.refl _ _) (.inr rfl) v) (r' := Res.blk b (cs.setIfInBounds j v)) (Blk.set (h.get q hq) j v) (fun _ hk => .inl hk) hlo
/-- One more, in new memory. -/
theorem Frm.made {lo base size m : Nat} {rs : List Res} {w : World} (h : Frm lo rs w) (e : TypeId) (cs : Array Value) (hb : base ≤ w.heap.size) (hm : m ≤ maxLen) (hs : cs.size = m * size) (hlo : lo ≤ w.heap.size) : Frm lo (rs ++ [Res.own base e size (.slice (some ⟨w.heap.size, 0, none⟩) m m) m cs.toList]) (w.alloc (.cells cs e)) := by
  refine h.both ((Ext.refl w).alloc _) hlo (rs' := [_]) ⟨fun i r hr => ?_, fun i j r s hi hj hij => ?_⟩
  · have hi := (List.getElem?_eq_some_iff.1 hr).1
    obtain rfl : i = 0 := by simpa using hi
    cases hr
    refine ⟨own_box hb hm hs, fun k hk => ?_⟩
    rw [← own_blk hk]
    simp
  · have h1 := (List.getElem?_eq_some_iff.1 hi).1
    have h2 := (List.getElem?_eq_some_iff.1 hj).1
    simp at h1 h2
    omega
/-- A visit after k darts that is not over, but for the third dart. -/
structure DrtI (gin gout lp : Int) (ip : Bool) (bs : List Int) (k : Nat) (left : Int) (inn : Bool) : Prop where
  len : bs.length = k
  valid : ∀ b ∈ bs, validB b = true
  thr : thrW gin gout bs 0 ⟨lp, 0, 0, ip, false, false⟩ = .inl ⟨left, 0, k, inn, false, false⟩
  lb : 0 ≤ left ∧ left ≤ 1001
def skipB (gin : Int) (inn : Bool) (b : Int) : Bool := b == 0 || (!inn && !opn4 gin b)
def winB (gout left : Int) (b : Int) : Bool := left - wrt b == 0 && opn4 gout b
def bustB (gout left : Int) (b : Int) : Bool := decide (left - wrt b < 2) && (decide (left - wrt b < 1) || gout != 0)
def wonA (b : Bool) (E : List Int) (p : Int) : List Int := if b = true then E ++ [p] else E
theorem skipB_iff {gin : Int} {inn : Bool} {b : Int} : skipB gin inn b = true ↔ (b == 0) = true ∨ inn = false ∧ opn4 gin b = false := by
  unfold skipB
  cases inn <;> cases opn4 gin b <;> simp
theorem bustB_eq {gout left b : Int} : bustB gout left b = (decide (left - wrt b < 2) && (left - wrt b != 1 || gout != 0)) := by
  unfold bustB
  by_cases h : left - wrt b < 2
  · by_cases h1 : left - wrt b = 1
    · simp [h1]
    · have : left - wrt b < 1 := by omega
      simp [h, h1, this]
  · simp [h]
section
variable {gin gout lp left b : Int} {ip inn : Bool} {bs : List Int} {k : Nat}
theorem DrtI.start (h : 0 ≤ lp ∧ lp ≤ 1001) : DrtI gin gout lp ip [] 0 lp ip := ⟨rfl, fun _ h => (by cases h), rfl, h⟩
theorem DrtI.snoc (h : DrtI gin gout lp ip bs k left inn) (hk : k < 3) (hv : validB b = true) : thrW gin gout (bs ++ [b]) 0 ⟨lp, 0, 0, ip, false, false⟩ = .inl (Thr.hit gin gout ⟨left, 0, k, inn, false, false⟩ b) := by
  refine thrW_snoc h.thr ?_ hv
  have : ((k : Int) == 3) = false := by simp; omega
  simp [Thr.over, this]
theorem DrtI.val (h : DrtI gin gout lp ip bs k left inn) (hv : validB b = true) : ∀ x ∈ bs ++ [b], validB x = true := fun x hx => by
  rcases List.mem_append.1 hx with hx | hx
  · exact h.valid x hx
  · rw [List.mem_singleton.1 hx]; exact hv
theorem DrtI.skip (h : DrtI gin gout lp ip bs k left inn) (hk : k < 3) (hv : validB b = true) (hs : skipB gin inn b = true) : DrtI gin gout lp ip (bs ++ [b]) (k + 1) left inn := by
  refine ⟨by simp [h.len], h.val hv, ?_, h.lb⟩
  rw [h.snoc hk hv]
  unfold Thr.hit
  rw [if_pos (skipB_iff.1 hs)]
  simp
theorem DrtI.on (h : DrtI gin gout lp ip bs k left inn) (hk : k < 3) (hv : validB b = true) (hs : skipB gin inn b = false) (hw : winB gout left b = false) (hb : bustB gout left b = false) : DrtI gin gout lp ip (bs ++ [b]) (k + 1) (left - wrt b) true := by
  have hh : Thr.hit gin gout ⟨left, 0, k, inn, false, false⟩ b = ⟨left - wrt b, 0, (k : Int) + 1, true, false, false⟩ := by
    unfold Thr.hit
    rw [if_neg (fun h => by rw [skipB_iff.2 h] at hs; cases hs), if_neg (by show ¬ winB gout left b = true; rw [hw]; simp), if_neg (by show ¬ (decide (left - wrt b < 2) && (left - wrt b != 1 || gout != 0)) = true; rw [← bustB_eq, hb]; simp)]
  have hl := Thr.hit_left (gin := gin) (gout := gout) (x := ⟨left, 0, k, inn, false, false⟩) hv h.lb
  rw [hh] at hl
  refine ⟨by simp [h.len], h.val hv, ?_, hl⟩
  rw [h.snoc hk hv, hh]
  simp
theorem DrtI.win (h : DrtI gin gout lp ip bs k left inn) (hk : k < 3) (hv : validB b = true) (hs : skipB gin inn b = false) (hw : winB gout left b = true) : Go.Proofs.Ytocnglplhnhllaa.thr gin gout ip lp (bs ++ [b]) = (⟨left - wrt b, lp - (left - wrt b), (k : Int) + 1, true, false, true⟩, -1, 0) := by
  have hh : Thr.hit gin gout ⟨left, 0, k, inn, false, false⟩ b = ⟨left - wrt b, 0, (k : Int) + 1, true, false, true⟩ := by
    unfold Thr.hit
    rw [if_neg (fun h => by rw [skipB_iff.2 h] at hs; cases hs), if_pos (by exact hw)]
  rw [thr_done (h.snoc hk hv) (by rw [hh]; simp [Thr.over]), hh]
  simp
theorem DrtI.bust (h : DrtI gin gout lp ip bs k left inn) (hk : k < 3) (hv : validB b = true) (hs : skipB gin inn b = false) (hw : winB gout left b = false) (hb : bustB gout left b = true) : Go.Proofs.Ytocnglplhnhllaa.thr gin gout ip lp (bs ++ [b]) = (⟨lp, 0, (k : Int) + 1, ip, true, false⟩, -1, 0) := by
  have hh : Thr.hit gin gout ⟨left, 0, k, inn, false, false⟩ b = ⟨left, 0, (k : Int) + 1, inn, true, false⟩ := by
    unfold Thr.hit
    rw [if_neg (fun h => by rw [skipB_iff.2 h] at hs; cases hs), if_neg (by show ¬ winB gout left b = true; rw [hw]; simp), if_pos (by show (decide (left - wrt b < 2) && (left - wrt b != 1 || gout != 0)) = true; rw [← bustB_eq, hb])]
  rw [thr_done (h.snoc hk hv) (by rw [hh]; simp [Thr.over]), hh]
  simp
theorem DrtI.full (h : DrtI gin gout lp ip bs 3 left inn) : Go.Proofs.Ytocnglplhnhllaa.thr gin gout ip lp bs = (⟨left, lp - left, 3, inn, false, false⟩, -1, 0) := by
  rw [thr_done h.thr (by simp [Thr.over])]
  simp
end
/-- A block of a body, by its number; what stands from a region on. -/
def codeBlk (n : Nat) : Code → Option Code
  | .block m c => if m = n then some (.block m c) else codeBlk n c
  | .seq a b => match codeBlk n a with
    | some c => some c
    | none => codeBlk n b
  | .cond _ a b => match codeBlk n a with
    | some c => some c
    | none => codeBlk n b
  | .loop c => codeBlk n c
  | _ => none
def codeFrom (n : Nat) : Code → Option Code
  | .block _ c => codeFrom n c
  | .seq (.region m l d) b => if m = n then some (.seq (.region m l d) b) else codeFrom n b
  | .seq a b => match codeFrom n a with
    | some c => some c
    | none => codeFrom n b
  | .cond _ a b => match codeFrom n a with
    | some c => some c
    | none => codeFrom n b
  | .loop c => codeFrom n c
  | _ => none
def rndN (gr : Int) (v n : Nat) : Int := if v % n = n - 1 then gr + 1 else gr
def ovrN (eq : Bool) (m v n : Nat) (rd ro : Int) : Bool := (decide (0 < m) && (!eq || v % n == n - 1)) || (v % n == n - 1 && rd == ro)
end Go.Proofs.Ytocnglplhnhllaa
