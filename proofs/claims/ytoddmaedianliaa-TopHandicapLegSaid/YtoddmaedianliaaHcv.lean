/-
  Rows of laws and of visits of one's own (as in chapter 3's texts Vis and Vit).
-/
import Derived.Test.YtoddmaedianliaaTmf
import Derived.Test.YtoddmaedianliaaHcp
namespace Go.Proofs.Ytoddmaedianliaa
open Go.RowKit Go.BigFrame
attribute [local go_sem] Later.cell Later.frozen Lat.cell Lat.frozen
def Cnt.cells (c : Cnt) : List Value := [.int .i64 c.start, .int .i64 c.gin, .int .i64 c.gout]
theorem info_cnt : (Try.prog.info? 32).map (fun i => (i.zero, i.size, i.bytes)) = some (some (.agg #[.int .i64 0, .int .i64 0, .int .i64 0]), 3, 24) := by kernel_rfl
theorem cnt_length (l : List Cnt) : (l.flatMap Cnt.cells).length = l.length * 3 := by
  induction l with
  | nil => rfl
  | cons x l ih => simp only [List.flatMap_cons, List.length_append, ih, List.length_cons, Cnt.cells, List.length_nil]; omega
theorem cnt_get (l : List Cnt) : ∀ (i : Nat) (h : i < l.length), (l.flatMap Cnt.cells)[i * 3]? = some (.int .i64 l[i].start) ∧ (l.flatMap Cnt.cells)[i * 3 + 1]? = some (.int .i64 l[i].gin) ∧ (l.flatMap Cnt.cells)[i * 3 + 2]? = some (.int .i64 l[i].gout) := by
  induction l with
  | nil => intro i h; exact absurd h (by simp)
  | cons x l ih =>
    intro i h
    cases i with
    | zero => exact ⟨rfl, rfl, rfl⟩
    | succ i =>
      have := ih i (by simpa using h)
      rw [List.flatMap_cons, show (i + 1) * 3 = i * 3 + 3 by omega]
      exact this
theorem CntsAt.vals {w : World} {a : Option Addr} {l : List Cnt} (h : CntsAt w a l) : ∀ ad, a = some ad → ∀ j u, (l.flatMap Cnt.cells)[j]? = some u → w.cell? (ad.add j) = some u := by
  intro ad ha j u hu
  have hj := (List.getElem?_eq_some_iff.1 hu).1
  rw [cnt_length] at hj
  have hi : j / 3 < l.length := by omega
  obtain ⟨b, o, e, h0, h1, h2⟩ := h (j / 3) hi
  rw [ha] at e
  cases e
  have hg := cnt_get l (j / 3) hi
  rw [addr_add]
  rcases (by omega : j = j / 3 * 3 ∨ j = j / 3 * 3 + 1 ∨ j = j / 3 * 3 + 2) with hm | hm | hm
  · rw [← hm] at hg h0
    rw [hg.1] at hu
    cases hu
    exact h0
  · rw [Nat.add_assoc, ← hm] at h1
    rw [← hm] at hg
    rw [hg.2.1] at hu
    cases hu
    exact h1
  · rw [Nat.add_assoc, ← hm] at h2
    rw [← hm] at hg
    rw [hg.2.2] at hu
    cases hu
    exact h2
theorem cnt_one (l : List Cnt) : ∀ u ∈ l.flatMap Cnt.cells, u.oneCell' = true := by
  intro u hu
  obtain ⟨x, _, hx⟩ := List.mem_flatMap.1 hu
  simp [Cnt.cells] at hx
  rcases hx with rfl | rfl | rfl <;> rfl
theorem own_cnts {w : World} {base : Nat} {v : Value} {l : List Cnt} (h : w.ownsRow base 32 3 v l.length (l.flatMap Cnt.cells)) : ∃ a c, v = .slice a l.length c ∧ CntsAt w a l := by
  have hc := fun g (hg : v.ownBlock = some g) => World.ownsRow.cells (w := w) (g := g) h hg
  obtain ⟨h1, ⟨e, h2⟩ | ⟨g, cap, cur, e, h2, h3, h4⟩⟩ := h
  · have : l = [] := List.length_eq_zero_iff.1 h2
    subst this
    exact ⟨none, 0, e, fun i hi => absurd hi (by simp)⟩
  · refine ⟨some ⟨g, 0, none⟩, cap, e, fun i hi => ⟨g, 0, rfl, ?_, ?_, ?_⟩⟩
    · have := hc g (by rw [e]; rfl) (i * 3) _ (cnt_get l i hi).1
      rwa [addr_add] at this
    · have := hc g (by rw [e]; rfl) (i * 3 + 1) _ (cnt_get l i hi).2.1
      rwa [addr_add] at this
    · have := hc g (by rw [e]; rfl) (i * 3 + 2) _ (cnt_get l i hi).2.2
      rwa [addr_add] at this
theorem own_blk {b n c i : Nat} (e : (Value.slice (some ⟨b, 0, none⟩) n c).ownBlock = some i) : b = i := Option.some.inj e
theorem heap_at {w : World} {n : Nat} (o : Obj) (h : n = w.heap.size) : (w.alloc o).heap[n]? = some o := h ▸ heap_new w o
theorem four_set {w : World} {b : Nat} {v0 v1 v2 v3 : Value} (h : Blk w b #[v0, v1, v2, v3]) (x0 x1 x2 x3 : Value) :
    Blk ((((w.setCell ⟨b, 0, none⟩ x0).setCell ⟨b, 1, none⟩ x1).setCell ⟨b, 2, none⟩ x2).setCell ⟨b, 3, none⟩ x3) b #[x0, x1, x2, x3] := by
  have h0 : Blk _ b #[x0, v1, v2, v3] := h.set 0 x0
  have h1 : Blk _ b #[x0, x1, v2, v3] := h0.set 1 x1
  have h2 : Blk _ b #[x0, x1, x2, v3] := h1.set 2 x2
  have h3 : Blk _ b #[x0, x1, x2, x3] := h2.set 3 x3
  exact h3
theorem four_chg (S : Nat → Prop) (w : World) {b : Nat} (hb : S b) (x0 x1 x2 x3 : Value) : Chg S w ((((w.setCell ⟨b, 0, none⟩ x0).setCell ⟨b, 1, none⟩ x1).setCell ⟨b, 2, none⟩ x2).setCell ⟨b, 3, none⟩ x3) :=
  ((((Chg.refl S w).setCell (.inr hb) x0).setCell (.inr hb) x1).setCell (.inr hb) x2).setCell (.inr hb) x3
theorem CntsAt.of_own {w : World} {base : Nat} {a : Option Addr} {c : Nat} {l : List Cnt} (h : w.ownsRow base 32 3 (.slice a l.length c) l.length (l.flatMap Cnt.cells)) : CntsAt w a l := by
  obtain ⟨a', c', e, h'⟩ := own_cnts h
  cases e
  exact h'
/-- The cells of visits, whose lists of beds are given. -/
def lvC : List LV → List Value → List Value
  | v :: l, u :: us => .int .i64 v.player :: u :: lvC l us
  | _, _ => []
theorem lvC_append : ∀ (l : List LV) (us : List Value) (v : LV) (u : Value), us.length = l.length → lvC (l ++ [v]) (us ++ [u]) = lvC l us ++ [.int .i64 v.player, u]
  | [], [], _, _, _ => rfl
  | [], _ :: _, _, _, h => by simp at h
  | _ :: _, [], _, _, h => by simp at h
  | x :: l, y :: us, v, u, h => by simp only [List.cons_append, lvC, lvC_append l us v u (by simpa using h)]
theorem lvC_length : ∀ (l : List LV) (us : List Value), us.length = l.length → (lvC l us).length = l.length * 2
  | [], [], _ => rfl
  | [], _ :: _, h => by simp at h
  | _ :: _, [], h => by simp at h
  | x :: l, y :: us, h => by simp only [lvC, List.length_cons, lvC_length l us (by simpa using h)]; omega
theorem lvC_get : ∀ (l : List LV) (us : List Value), us.length = l.length → ∀ i, (h : i < l.length) → (lvC l us)[i * 2]? = some (.int .i64 l[i].player) ∧ (lvC l us)[i * 2 + 1]? = us[i]?
  | [], _, _, i, h => absurd h (by simp)
  | _ :: _, [], h, _, _ => by simp at h
  | x :: l, y :: us, h, i, hi => by
    cases i with
    | zero => exact ⟨rfl, rfl⟩
    | succ i =>
      have := lvC_get l us (by simpa using h) i (by simpa using hi)
      rw [show (i + 1) * 2 = i * 2 + 2 by omega]
      exact this
/-- Visits in a row of one's own, and each list of beds too. -/
structure VisO (w : World) (base : Nat) (v : Value) (l : List LV) (us : List Value) : Prop where
  outer : w.ownsRow base 41 2 v l.length (lvC l us)
  len : us.length = l.length
  inner : ∀ i, (h : i < l.length) → ∃ u, us[i]? = some u ∧ w.ownsRow base 42 1 u l[i].beds.length (l[i].beds.map (Value.int .i64))
theorem VisO.ext {w w' : World} {base : Nat} {v : Value} {l : List LV} {us : List Value} (h : VisO w base v l us) (hx : Ext w w') : VisO w' base v l us :=
  ⟨own_chg h.outer (hx.chg fun _ => False) (fun _ _ => id), h.len, fun i hi => let ⟨u, e, o⟩ := h.inner i hi; ⟨u, e, own_chg o (hx.chg fun _ => False) (fun _ _ => id)⟩⟩
theorem VisO.chg {w w' : World} {S : Nat → Prop} {base : Nat} {v : Value} {l : List LV} {us : List Value} (h : VisO w base v l us) (hx : Chg S w w') (ho : ∀ k, v.ownBlock = some k → ¬ S k) (hi : ∀ u ∈ us, ∀ k, u.ownBlock = some k → ¬ S k) : VisO w' base v l us :=
  ⟨own_chg h.outer hx ho, h.len, fun i hi' => let ⟨u, e, o⟩ := h.inner i hi'; ⟨u, e, own_chg o hx (hi u (List.mem_of_getElem? e))⟩⟩
theorem VisO.lts {w : World} {base : Nat} {v : Value} {l : List LV} {us : List Value} (h : VisO w base v l us) : ∀ u ∈ us, ∀ k, u.ownBlock = some k → base ≤ k ∧ k < w.heap.size := by
  intro u hu k hk
  obtain ⟨i, hi, rfl⟩ := List.mem_iff_getElem.1 hu
  obtain ⟨u', e, o⟩ := h.inner i (by rw [← h.len]; exact hi)
  rw [List.getElem?_eq_getElem hi] at e
  cases e
  exact own_lt o k hk
/-- One more visit. -/
theorem VisO.push {w w' : World} {base : Nat} {v v' : Value} {l : List LV} {us : List Value} (h : VisO w base v l us) {x : LV} {u : Value} (hu : w.ownsRow base 42 1 u x.beds.length (x.beds.map (Value.int .i64)))
    (ho : w'.ownsRow base 41 2 v' (l.length + 1) (lvC l us ++ [.int .i64 x.player, u])) (hg : w.grownBy w' v.ownBlock) : VisO w' base v' (l ++ [x]) (us ++ [u]) := by
  have hC := grown_chg hg
  refine ⟨?_, by simp [h.len], fun i hi => ?_⟩
  · rw [lvC_append _ _ _ _ h.len, List.length_append]; exact ho
  · by_cases hil : i < l.length
    · obtain ⟨u', e, o⟩ := h.inner i hil
      refine ⟨u', by rw [List.getElem?_append_left (by rw [h.len]; exact hil)]; exact e, ?_⟩
      rw [List.getElem_append_left hil]
      exact own_chg o hC (fun j hj e => own_ne o h.outer (by decide) j hj e)
    · obtain rfl : i = l.length := by simp at hi; omega
      refine ⟨u, by rw [List.getElem?_append_right (by rw [h.len]; omega), h.len]; simp, ?_⟩
      rw [List.getElem_append_right (by omega)]
      simp only [Nat.sub_self, List.getElem_cons_zero]
      exact own_chg hu hC (fun j hj e => own_ne hu h.outer (by decide) j hj e)
theorem VisO.vis {w : World} {base : Nat} {v : Value} {l : List LV} {us : List Value} (h : VisO w base v l us) : ∃ a c, v = .slice a l.length c ∧ VisAt w a l := by
  have hc := fun g (hg : v.ownBlock = some g) => World.ownsRow.cells (w := w) (g := g) h.outer hg
  have hin := h.inner
  have hgt := lvC_get l us h.len
  obtain ⟨h1, ⟨e, h2⟩ | ⟨g, cap, cur, e, h2, h3, h4⟩⟩ := h.outer
  · exact ⟨none, 0, by rw [e, h2], fun i hi => absurd hi (by omega)⟩
  · refine ⟨some ⟨g, 0, none⟩, cap, e, fun i hi => ?_⟩
    obtain ⟨u, hu, ho⟩ := hin i hi
    obtain ⟨a', c', rfl, ht⟩ := own_cells_i ho
    have hg := hgt i hi
    have p0 := hc g (by rw [e]; rfl) (i * 2) _ hg.1
    have p1 := hc g (by rw [e]; rfl) (i * 2 + 1) _ (hg.2.trans hu)
    rw [addr_add] at p0 p1
    exact ⟨g, 0, a', c', rfl, p0, p1, ht⟩
theorem VisO.nil {w : World} {base : Nat} (h : base ≤ w.heap.size) : VisO (w.alloc (.cells #[] 41)) base (.slice (some ⟨w.heap.size, 0, none⟩) 0 0) [] [] := ⟨own_empty rfl h, rfl, fun i hi => absurd hi (by simp)⟩
/-- Visits as they come in: lists of beds that are nil are empty. -/
def VisIn (w : World) (a : Option Addr) (l : List LV) : Prop :=
  ∀ i, (h : i < l.length) → ∃ b o ba bc, a = some ⟨b, o, none⟩ ∧ w.cell? ⟨b, o + i * 2, none⟩ = some (.int .i64 l[i].player) ∧ w.cell? ⟨b, o + i * 2 + 1, none⟩ = some (.slice ba l[i].beds.length bc) ∧ CellsAt w .i64 ba l[i].beds ∧ (ba = none → l[i].beds.length = 0 ∧ bc = 0)
theorem VisIn.vis {w : World} {a : Option Addr} {l : List LV} (h : VisIn w a l) : VisAt w a l := fun i hi => let ⟨b, o, ba, bc, h1, h2, h3, h4, _⟩ := h i hi; ⟨b, o, ba, bc, h1, h2, h3, h4⟩
theorem VisIn.ext {w w' : World} {a : Option Addr} {l : List LV} (h : VisIn w a l) (hx : Ext w w') : VisIn w' a l := fun i hi => by
  obtain ⟨b, o, ba, bc, e, h1, h2, h3, h4⟩ := h i hi
  exact ⟨b, o, ba, bc, e, hx.cell h1, hx.cell h2, h3.ext hx, h4⟩
theorem VisO.visIn {w : World} {base : Nat} {v : Value} {l : List LV} {us : List Value} (h : VisO w base v l us) : ∃ a c, v = .slice a l.length c ∧ VisIn w a l ∧ (a = none → l.length = 0 ∧ c = 0) := by
  have hc := fun g (hg : v.ownBlock = some g) => World.ownsRow.cells (w := w) (g := g) h.outer hg
  have hin := h.inner
  have hgt := lvC_get l us h.len
  obtain ⟨h1, ⟨e, h2⟩ | ⟨g, cap, cur, e, h2, h3, h4⟩⟩ := h.outer
  · exact ⟨none, 0, by rw [e, h2], fun i hi => absurd hi (by omega), fun _ => ⟨h2, rfl⟩⟩
  · refine ⟨some ⟨g, 0, none⟩, cap, e, fun i hi => ?_, fun h => by cases h⟩
    obtain ⟨u, hu, ho⟩ := hin i hi
    have hnil : ∀ c', u = .slice none l[i].beds.length c' → l[i].beds.length = 0 ∧ c' = 0 := by
      rintro c' rfl
      obtain ⟨_, ⟨e', h2'⟩ | ⟨_, _, _, e', _⟩⟩ := ho
      · injection e' with _ e2 e3; exact ⟨e2, e3⟩
      · cases e'
    obtain ⟨a', c', rfl, ht⟩ := own_cells_i ho
    have hg := hgt i hi
    have p0 := hc g (by rw [e]; rfl) (i * 2) _ hg.1
    have p1 := hc g (by rw [e]; rfl) (i * 2 + 1) _ (hg.2.trans hu)
    rw [addr_add] at p0 p1
    exact ⟨g, 0, a', c', rfl, p0, p1, ht, fun h => hnil c' (by rw [h])⟩
theorem info_bed : (Try.prog.info? 42).map (fun i => (i.zero, i.size, i.bytes)) = some (some (.int .i64 0), 1, 8) := by kernel_rfl
theorem info_vis : (Try.prog.info? 41).map (fun i => (i.zero, i.size, i.bytes)) = some (some (.agg #[.int .i64 0, .slice none 0 0]), 2, 32) := by kernel_rfl
theorem wp_append_vals_at {P : Program} {w : World} {ops : Array Oper} {rest : List Oper} {o : Oper} {a : Act} {Q : Exit → Act → World → Prop} (hgd : o.guard = none) (s x : Operand) (t e : TypeId) (z : Value) (size bytes : Nat)
    (ho : o.op = .call { callee := .builtin .append, args := #[s, x], argTypes := #[t, t] }) (hinfo : (P.info? e).map (fun i => (i.zero, i.size, i.bytes)) = some (some z, size, bytes)) (ht : P.underlying t = some (.slice e)) (hzs : z.cells.size = size) (hpos : 0 < size)
    (base : Nat) (v : Value) (n : Nat) (xs : List Value) (hs : a.eval s = v) (hown : w.ownsRow base e size v n xs) (ya : Option Addr) (m c : Nat) (news : List Value) (hx : a.eval x = .slice ya m c) (hnil : ya = none → m = 0 ∧ c = 0)
    (hl : news.length = m * size) (hc : ∀ ad, ya = some ad → ∀ j u, news[j]? = some u → w.cell? (ad.add j) = some u) (h1 : ∀ u ∈ news, u.oneCell' = true) (hsz : n + m ≤ 1000000000) (hby : bytes ≤ 100000) (hbase : base ≤ w.heap.size)
    (h : ∀ v' w', w'.ownsRow base e size v' (n + m) (xs ++ news) → w.grownBy w' v.ownBlock → (v'.ownBlock = v.ownBlock ∨ v'.ownBlock = some w.heap.size) → wpList P ops Q rest (a.put o.dst v') w') : wpList P ops Q (o :: rest) a w := by
  obtain ⟨i0, hi, hz0, hz1, hz2⟩ := info_parts hinfo
  cases ya with
  | none =>
    obtain ⟨rfl, rfl⟩ := hnil rfl
    have : news = [] := List.length_eq_zero_iff.1 (by simpa using hl)
    subst this
    exact wpList_append_own_none hgd s x t ho base e i0 size ht hi v n xs hs hown hx (h v w (by simpa using hown) (World.grownBy.refl _ _) (.inl rfl))
  | some ad =>
    refine wpList_append_own_at w hgd s x t ho base e i0 z size bytes ht hi hz0 hz1 hz2 hzs hpos v n xs hs hown ad m c news hx hl (hc ad rfl) h1 (by unfold maxLen; omega) ?_ hbase (fun v' w' h1 h2 _ h4 => h v' w' h1 h2 h4)
    exact Nat.le_trans (Nat.mul_le_mul (by omega : n + m ≤ 1000000000) hby) (by decide)
def lenOf : Value → Nat
  | .slice _ n _ => n
  | _ => 0
theorem ones_length (n : Nat) : (ones n).length = n := by simp [ones]
theorem ones_succ (n : Nat) : ones (n + 1) = ones n ++ [101] := by simp [ones, List.replicate_succ']
/-- A row of beds of one's own. -/
def OwnBd (w : World) (base : Nat) (v : Value) (n : Nat) : Prop := w.ownsRow base 42 1 v n ((ones n).map (Value.int .i64))
theorem OwnBd.ext {w w' : World} {base n : Nat} {v : Value} (h : OwnBd w base v n) (hx : Ext w w') : OwnBd w' base v n := own_chg h (hx.chg fun _ => False) (fun _ _ => id)
theorem OwnBd.chg {w w' : World} {S : Nat → Prop} {base n : Nat} {v : Value} (h : OwnBd w base v n) (hx : Chg S w w') (hs : ∀ k, v.ownBlock = some k → ¬ S k) : OwnBd w' base v n := own_chg h hx hs
theorem OwnBd.shape {w : World} {base n : Nat} {v : Value} (h : OwnBd w base v n) : ∃ a c, v = .slice a n c := by
  obtain ⟨_, ⟨e, e2⟩ | ⟨g, cap, cur, e, _⟩⟩ := h
  · exact ⟨none, 0, by rw [e, e2]⟩
  · exact ⟨_, _, e⟩
/-- The visits so far: none of their blocks is that of what is left. -/
structure HvO (w : World) (B : Nat) (v : Value) (l : List LV) (us : List Value) : Prop where
  vis : VisO w B v l us
  ne : ∀ j, v.ownBlock = some j → j ≠ B + 1
  nes : ∀ u ∈ us, ∀ j, u.ownBlock = some j → j ≠ B + 1
  fits : ∀ x ∈ l, x.fits
theorem HvO.ext {w w' : World} {B : Nat} {v : Value} {l : List LV} {us : List Value} (h : HvO w B v l us) (hx : Ext w w') : HvO w' B v l us := ⟨h.vis.ext hx, h.ne, h.nes, h.fits⟩
theorem HvO.chg {w w' : World} {B : Nat} {v : Value} {l : List LV} {us : List Value} (h : HvO w B v l us) (hx : Chg (· = B + 1) w w') : HvO w' B v l us := ⟨h.vis.chg hx (fun j e => h.ne j e) (fun u hu j e => h.nes u hu j e), h.ne, h.nes, h.fits⟩
end Go.Proofs.Ytoddmaedianliaa
