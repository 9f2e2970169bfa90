/-
  The statements of chapter 3: copies of visits.
-/
import Derived.Test.YtocnglplhnhllaaVis
import Derived.Test.YtocnglplhnhllaaKno
namespace Go.Proofs.Ytocnglplhnhllaa
open Go.RowKit Go.BigFrame
attribute [local go_sem] Later.cell Later.frozen Lat.cell Lat.frozen
/-- The cells of visits, whose lists of beds are given. -/
def lvC : List LV → List Value → List Value
  | v :: l, u :: us => .int .i64 v.player :: u :: lvC l us
  | _, _ => []
theorem lvC_append : ∀ (l : List LV) (us : List Value) (v : LV) (u : Value), us.length = l.length → lvC (l ++ [v]) (us ++ [u]) = lvC l us ++ [.int .i64 v.player, u]
  | [], [], _, _, _ => rfl
  | [], _ :: _, _, _, h => by simp at h
  | _ :: _, [], _, _, h => by simp at h
  | x :: l, y :: us, v, u, h => by simp only [List.cons_append, lvC, lvC_append l us v u (by simpa using h)]
theorem lvC_length : ∀ (l : List LV) (us : List Value), us.length = l.length → (lvC l us).length = l.length * 2
  | [], [], _ => rfl
  | [], _ :: _, h => by simp at h
  | _ :: _, [], h => by simp at h
  | x :: l, y :: us, h => by simp only [lvC, List.length_cons, lvC_length l us (by simpa using h)]; omega
theorem lvC_get : ∀ (l : List LV) (us : List Value), us.length = l.length → ∀ i, (h : i < l.length) → (lvC l us)[i * 2]? = some (.int .i64 l[i].player) ∧ (lvC l us)[i * 2 + 1]? = us[i]?
  | [], _, _, i, h => absurd h (by simp)
  | _ :: _, [], h, _, _ => by simp at h
  | x :: l, y :: us, h, i, hi => by
    cases i with
    | zero => exact ⟨rfl, rfl⟩
    | succ i =>
      have := lvC_get l us (by simpa using h) i (by simpa using hi)
      rw [show (i + 1) * 2 = i * 2 + 2 by omega]
      exact this
/-- Visits in a row of one's own, and each list of beds too. -/
structure VisO (w : World) (base : Nat) (v : Value) (l : List LV) (us : List Value) : Prop where
  outer : w.ownsRow base 84 2 v l.length (lvC l us)
  len : us.length = l.length
  inner : ∀ i, (h : i < l.length) → ∃ u, us[i]? = some u ∧ w.ownsRow base 34 1 u l[i].beds.length (l[i].beds.map (Value.int .i64))
theorem VisO.ext {w w' : World} {base : Nat} {v : Value} {l : List LV} {us : List Value} (h : VisO w base v l us) (hx : Ext w w') : VisO w' base v l us :=
  ⟨own_chg h.outer (hx.chg fun _ => False) (fun _ _ => id), h.len, fun i hi => let ⟨u, e, o⟩ := h.inner i hi; ⟨u, e, own_chg o (hx.chg fun _ => False) (fun _ _ => id)⟩⟩
theorem VisO.chg {w w' : World} {S : Nat → Prop} {base : Nat} {v : Value} {l : List LV} {us : List Value} (h : VisO w base v l us) (hx : Chg S w w') (ho : ∀ k, v.ownBlock = some k → ¬ S k) (hi : ∀ u ∈ us, ∀ k, u.ownBlock = some k → ¬ S k) : VisO w' base v l us :=
  ⟨own_chg h.outer hx ho, h.len, fun i hi' => let ⟨u, e, o⟩ := h.inner i hi'; ⟨u, e, own_chg o hx (hi u (List.mem_of_getElem? e))⟩⟩
theorem VisO.lts {w : World} {base : Nat} {v : Value} {l : List LV} {us : List Value} (h : VisO w base v l us) : ∀ u ∈ us, ∀ k, u.ownBlock = some k → base ≤ k ∧ k < w.heap.size := by
  intro u hu k hk
  obtain ⟨i, hi, rfl⟩ := List.mem_iff_getElem.1 hu
  obtain ⟨u', e, o⟩ := h.inner i (by rw [← h.len]; exact hi)
  rw [List.getElem?_eq_getElem hi] at e
  cases e
  exact own_lt o k hk
/-- One more visit. -/
theorem VisO.push {w w' : World} {base : Nat} {v v' : Value} {l : List LV} {us : List Value} (h : VisO w base v l us) {x : LV} {u : Value} (hu : w.ownsRow base 34 1 u x.beds.length (x.beds.map (Value.int .i64)))
    (ho : w'.ownsRow base 84 2 v' (l.length + 1) (lvC l us ++ [.int .i64 x.player, u])) (hg : w.grownBy w' v.ownBlock) : VisO w' base v' (l ++ [x]) (us ++ [u]) := by
  have hC := grown_chg hg
  refine ⟨?_, by simp [h.len], fun i hi => ?_⟩
  · rw [lvC_append _ _ _ _ h.len, List.length_append]; exact ho
  · by_cases hil : i < l.length
    · obtain ⟨u', e, o⟩ := h.inner i hil
      refine ⟨u', by rw [List.getElem?_append_left (by rw [h.len]; exact hil)]; exact e, ?_⟩
      rw [List.getElem_append_left hil]
      exact own_chg o hC (fun j hj e => own_ne o h.outer (by decide) j hj e)
    · obtain rfl : i = l.length := by simp at hi; omega
      refine ⟨u, by rw [List.getElem?_append_right (by rw [h.len]; omega), h.len]; simp, ?_⟩
      rw [List.getElem_append_right (by omega)]
      simp only [Nat.sub_self, List.getElem_cons_zero]
      exact own_chg hu hC (fun j hj e => own_ne hu h.outer (by decide) j hj e)
theorem VisO.vis {w : World} {base : Nat} {v : Value} {l : List LV} {us : List Value} (h : VisO w base v l us) : ∃ a c, v = .slice a l.length c ∧ VisAt w a l := by
  have hc := fun g (hg : v.ownBlock = some g) => World.ownsRow.cells (w := w) (g := g) h.outer hg
  have hin := h.inner
  have hgt := lvC_get l us h.len
  obtain ⟨h1, ⟨e, h2⟩ | ⟨g, cap, cur, e, h2, h3, h4⟩⟩ := h.outer
  · exact ⟨none, 0, by rw [e, h2], fun i hi => absurd hi (by omega)⟩
  · refine ⟨some ⟨g, 0, none⟩, cap, e, fun i hi => ?_⟩
    obtain ⟨u, hu, ho⟩ := hin i hi
    obtain ⟨a', c', rfl, ht⟩ := own_cells_i ho
    have hg := hgt i hi
    have p0 := hc g (by rw [e]; rfl) (i * 2) _ hg.1
    have p1 := hc g (by rw [e]; rfl) (i * 2 + 1) _ (hg.2.trans hu)
    rw [addr_add] at p0 p1
    exact ⟨g, 0, a', c', rfl, p0, p1, ht⟩
theorem VisO.nil {w : World} {base : Nat} (h : base ≤ w.heap.size) : VisO (w.alloc (.cells #[] 84)) base (.slice (some ⟨w.heap.size, 0, none⟩) 0 0) [] [] := ⟨own_empty rfl h, rfl, fun i hi => absurd hi (by simp)⟩
/-- Visits as they come in: lists of beds that are nil are empty. -/
def VisIn (w : World) (a : Option Addr) (l : List LV) : Prop :=
  ∀ i, (h : i < l.length) → ∃ b o ba bc, a = some ⟨b, o, none⟩ ∧ w.cell? ⟨b, o + i * 2, none⟩ = some (.int .i64 l[i].player) ∧ w.cell? ⟨b, o + i * 2 + 1, none⟩ = some (.slice ba l[i].beds.length bc) ∧ CellsAt w .i64 ba l[i].beds ∧ (ba = none → l[i].beds.length = 0 ∧ bc = 0)
theorem VisIn.vis {w : World} {a : Option Addr} {l : List LV} (h : VisIn w a l) : VisAt w a l := fun i hi => let ⟨b, o, ba, bc, h1, h2, h3, h4, _⟩ := h i hi; ⟨b, o, ba, bc, h1, h2, h3, h4⟩
theorem VisIn.ext {w w' : World} {a : Option Addr} {l : List LV} (h : VisIn w a l) (hx : Ext w w') : VisIn w' a l := fun i hi => by
  obtain ⟨b, o, ba, bc, e, h1, h2, h3, h4⟩ := h i hi
  exact ⟨b, o, ba, bc, e, hx.cell h1, hx.cell h2, h3.ext hx, h4⟩
theorem VisO.visIn {w : World} {base : Nat} {v : Value} {l : List LV} {us : List Value} (h : VisO w base v l us) : ∃ a c, v = .slice a l.length c ∧ VisIn w a l ∧ (a = none → l.length = 0 ∧ c = 0) := by
  have hc := fun g (hg : v.ownBlock = some g) => World.ownsRow.cells (w := w) (g := g) h.outer hg
  have hin := h.inner
  have hgt := lvC_get l us h.len
  obtain ⟨h1, ⟨e, h2⟩ | ⟨g, cap, cur, e, h2, h3, h4⟩⟩ := h.outer
  · exact ⟨none, 0, by rw [e, h2], fun i hi => absurd hi (by omega), fun _ => ⟨h2, rfl⟩⟩
  · refine ⟨some ⟨g, 0, none⟩, cap, e, fun i hi => ?_, fun h => by cases h⟩
    obtain ⟨u, hu, ho⟩ := hin i hi
    have hnil : ∀ c', u = .slice none l[i].beds.length c' → l[i].beds.length = 0 ∧ c' = 0 := by
      rintro c' rfl
      obtain ⟨_, ⟨e', h2'⟩ | ⟨_, _, _, e', _⟩⟩ := ho
      · injection e' with _ e2 e3; exact ⟨e2, e3⟩
      · cases e'
    obtain ⟨a', c', rfl, ht⟩ := own_cells_i ho
    have hg := hgt i hi
    have p0 := hc g (by rw [e]; rfl) (i * 2) _ hg.1
    have p1 := hc g (by rw [e]; rfl) (i * 2 + 1) _ (hg.2.trans hu)
    rw [addr_add] at p0 p1
    exact ⟨g, 0, a', c', rfl, p0, p1, ht, fun h => hnil c' (by rw [h])⟩
theorem info_bed : (Try.prog.info? 34).map (fun i => (i.zero, i.size, i.bytes)) = some (some (.int .i64 0), 1, 8) := by kernel_rfl
theorem info_vis : (Try.prog.info? 84).map (fun i => (i.zero, i.size, i.bytes)) = some (some (.agg #[.int .i64 0, .slice none 0 0]), 2, 32) := by kernel_rfl
/-- While a visit is copied. -/
structure VsG (N base : Nat) (v : Value) (l : List LV) (us : List Value) (x : LV) (L : Nat → Bool) (u : Nat → Value) (w : World) : Prop where
  outer : L 15 = false → VisO w base v l us
  done : L 15 = true → VisO w base (u 15) (l ++ [x]) (us ++ [u 12])
  one : L 6 = true → L 12 = false → w.ownsRow N 34 1 (u 6) 0 []
  two : L 12 = true → L 15 = false → w.ownsRow N 34 1 (u 12) x.beds.length (x.beds.map (Value.int .i64))
  box : L 14 = true → L 15 = false → ∃ k, u 14 = .slice (some ⟨k, 0, none⟩) 1 1 ∧ w.heap[k]? = some (.cells #[.int .i64 x.player, u 12] 84 (0, 0)) ∧ v.ownBlock ≠ some k
structure VsR (n m k : Nat) (v : Value) : Prop where
  one : k = 6 → ∃ k, v = .slice (some ⟨k, 0, none⟩) 0 0
  two : k = 12 → ∃ a c, v = .slice a n c
  box : k = 14 → ∃ k, v = .slice (some ⟨k, 0, none⟩) 1 1
  app : k = 15 → ∃ a c, v = .slice a (m + 1) c
def VisP (w : World) (l : List LV) (e : Ending) (w' : World) : Prop := ∃ v us, e = .returned v ∧ VisO w' w.heap.size v l us ∧ Ext w w'
set_option maxRecDepth 100000 in
set_option maxHeartbeats 2000000 in
theorem law_visits (l : List LV) (a : Option Addr) (c : Nat) (w : World) (hV : VisIn w a l) (hl : l.length ≤ 1000000) (hb : ∀ v ∈ l, v.beds.length ≤ 1000000) :
    Calls Try.prog 20 #[.slice a l.length c] w (VisP w l) := by
  have HV := Lib.hid hV
  have HB := Lib.hid hb
  clear hV hb
  go_enter Try.func20, Try.ntmps20
  go_wp2
  go_loopw [3, 4] (fun v i wr => ∃ (k : Nat) (us : List Value), k ≤ l.length ∧ i = .int .i64 k ∧ VisO wr w.heap.size v (l.take k) us ∧ Ext w wr) (fun _ i _ => l.length - (intOf i).toNat)
  case atStart => exact ⟨0, [], Nat.zero_le _, rfl, VisO.nil (Nat.le_refl _), (Ext.refl w).alloc _⟩
  case round =>
    obtain ⟨k, us, hk, rfl, hR, hx⟩ := hrel
    have htl : (l.take k).length = k := by simp; omega
    have HTL := Lib.hid htl
    obtain ⟨va, vc, rfl, -⟩ := hR.vis
    have hR' : VisO wr w.heap.size (.slice va k vc) (l.take k) us := by rw [htl] at hR; exact hR
    rw [htl]
    have HR := Lib.hid hR'
    have hsz := hx.size
    have hvl := hR'.len
    rw [htl] at hvl
    have HVL := Lib.hid hvl
    have HVB := Lib.hid (own_lt hR'.outer)
    have HUB := Lib.hid hR'.lts
    clear hR hR' htl hvl
    by_cases hlt : k < l.length
    · obtain ⟨b, o, ba, bc, rfl, p0, p1, ht, hnil⟩ := HV.out k hlt
      have hbw := lt_of_cell p0
      simp only at hbw
      replace p0 := hx.cell p0
      replace p1 := hx.cell p1
      have hbl0 := lt_of_cell p0
      simp only at hbl0
      have hnB : ¬ (w.heap.size ≤ b) := by omega
      have HT0 := Lib.hid ht
      have HNil := Lib.hid hnil
      have htk : l.take (k + 1) = l.take k ++ [l[k]] := List.take_succ_eq_append_getElem hlt
      have HTK := Lib.hid htk
      have hbd := HB.out _ (List.getElem_mem hlt)
      clear ht hnil htk
      generalize l[k] = x at *
      obtain ⟨pl, beds⟩ := x
      simp only at *
      generalize hN : wr.heap.size = N at *
      have HN := Lib.hid hN
      go_wp2
      refine wp_region_lat (by kernel_rfl) (fun b' _ => w.heap.size ≤ b' ∧ b' < N) (fun k => k == 6 || k == 12 || k == 14 || k == 15) (VsR beds.length k) (VsG N w.heap.size (.slice va k vc) (l.take k) us ⟨pl, beds⟩)
        (by kernel_rfl) (fun k hk => by simp only [Bool.or_eq_true, beq_iff_eq] at hk; show k < 17; omega)
        (fun L L' u w hh hg => ⟨by rw [hh 15 rfl]; exact hg.outer, by rw [hh 15 rfl]; exact hg.done, by rw [hh 6 rfl, hh 12 rfl]; exact hg.one, by rw [hh 12 rfl, hh 15 rfl]; exact hg.two, by rw [hh 14 rfl, hh 15 rfl]; exact hg.box⟩)
        (fun L u w w' hg hx => ⟨fun h => (hg.outer h).ext hx, fun h => (hg.done h).ext hx, fun h1 h2 => own_chg (hg.one h1 h2) (hx.chg fun _ => False) (fun _ _ => id), fun h1 h2 => own_chg (hg.two h1 h2) (hx.chg fun _ => False) (fun _ _ => id), fun h1 h2 => let ⟨k, a1, a2, a3⟩ := hg.box h1 h2; ⟨k, a1, hx.heap a2, a3⟩⟩)
        (fun j => if j = 6 then .slice (some ⟨0, 0, none⟩) 0 0 else if j = 12 then .slice none beds.length 0 else if j = 14 then .slice (some ⟨0, 0, none⟩) 1 1 else .slice none (k + 1) 0)
        (fun j hj => ⟨fun h => by subst h; exact ⟨0, rfl⟩, fun h => by subst h; exact ⟨none, 0, rfl⟩, fun h => by subst h; exact ⟨0, rfl⟩, fun h => by subst h; exact ⟨none, 0, rfl⟩⟩)
        ⟨fun _ => HR.out.ext ((Ext.refl _).drew), fun h => (by cases h), fun h => (by cases h), fun h => (by cases h), fun h => (by cases h)⟩ ?_
      intro T hT hne u hu
      obtain ⟨k6, u6⟩ := (hu 6 rfl).one rfl
      obtain ⟨a12, c12, u12⟩ := (hu 12 rfl).two rfl
      obtain ⟨k14, u14⟩ := (hu 14 rfl).box rfl
      obtain ⟨a15, c15, u15⟩ := (hu 15 rfl).app rfl
      refine lx_next 6 (by rfl) (by decide) ?_
      dsimp only [List.take, List.drop]
      repeat (go_big_quiet_step (fail))
      refine wpQuiet_nil ?_
      refine lx_loud (by rfl) (by kernel_rfl) ?_ (fun K hK => ?_)
      · intro L w3 hL hd hcl hC hg
        obtain ⟨z, rfl⟩ := hC
        have hx9 := (Ext.refl z.world).alloc (.cells #[] 34)
        have hzs : N ≤ z.world.heap.size := by have := z.size; omega
        go_wp2
        exact ⟨⟨fun _ => ⟨_, rfl⟩, fun h => absurd h (by decide), fun h => absurd h (by decide), fun h => absurd h (by decide)⟩, ⟨z.ext hx9, rfl⟩, ⟨fun h => (hg.outer h).ext hx9, fun h => (hg.done h).ext hx9, fun _ _ => own_empty rfl hzs, fun h1 h2 => own_chg (hg.two h1 h2) (hx9.chg fun _ => False) (fun _ _ => id), fun h1 h2 => let ⟨k, a1, a2, a3⟩ := hg.box h1 h2; ⟨k, a1, hx9.heap a2, a3⟩⟩⟩
      rw [u6]
      go_simp
      with_reducible refine hK _ ?_
      clear hK K
      refine lx_next 5 (by rfl) (by decide) ?_
      dsimp only [List.take, List.drop]
      repeat (go_big_quiet_step (fail))
      refine wpQuiet_nil ?_
      refine lx_loud (by rfl) (by kernel_rfl) ?_ (fun K hK => ?_)
      · intro L w3 hL hd hcl hC hg
        obtain ⟨z, rfl⟩ := hC
        have ho := hg.one (hd 6 (by kernel_rfl)) hL
        rw [u6] at ho
        have hzN : N ≤ z.world.heap.size := by have := z.size; omega
        have hzx : Ext w z.world := Chg.to_ext hx z.chg (by rintro i ⟨_, h1, h2⟩; omega)
        have hct : CellsAt z.world .i64 ba beds := by
          intro i hi
          obtain ⟨b', o', e, hc'⟩ := HT0.out i hi
          exact ⟨b', o', e, hzx.cell hc'⟩
        have h14 := hcl.off hL 20 14 (by kernel_rfl)
        have h15 := hcl.off hL 20 15 (by kernel_rfl)
        refine wp_append_vals rfl _ _ 27 34 _ 1 8 rfl info_bed (by kernel_rfl) rfl (by decide) N _ 0 [] rfl ho ba beds.length bc (beds.map (Value.int .i64)) rfl HNil.out (by simp) (CellsAt.vals hct) (ints_one _ _) (by omega) (by omega) hzN ?_
        intro v' w4 ho4 hg4
        have hob := own_lt ho
        have hC4 := grown_chg hg4
        have hO4 : w4.ownsRow N 34 1 v' beds.length (beds.map (Value.int .i64)) := by simpa using ho4
        obtain ⟨ca, cc, rfl, -⟩ := own_cells_i hO4
        have HO4 := Lib.hid hO4
        clear ho4 hO4
        go_wp2
        refine ⟨⟨fun h => absurd h (by decide), fun _ => ⟨_, _, rfl⟩, fun h => absurd h (by decide), fun h => absurd h (by decide)⟩, ⟨z.chgd hC4 (fun i e => .inl (by have := (hob i e).1; omega)), rfl⟩,
          ⟨fun _ => (hg.outer h15).chg hC4 (fun i e1 e2 => by have := (hob i e2).1; have := HVB.out i e1; omega) (fun u hu i e1 e2 => by have := (hob i e2).1; have := HUB.out u hu i e1; omega), fun h => (by simp [upd, h15] at h), fun _ h => (by simp [upd] at h), fun _ _ => HO4.out, fun h => (by simp [upd, h14] at h)⟩⟩
      rw [u12]
      go_simp
      with_reducible refine hK _ ?_
      clear hK K
      refine lx_next 1 (by rfl) (by decide) ?_
      dsimp only [List.take, List.drop]
      repeat (go_big_quiet_step (fail))
      refine wpQuiet_nil ?_
      refine lx_loud (by rfl) (by kernel_rfl) ?_ (fun K hK => ?_)
      · intro L w3 hL hd hcl hC hg
        obtain ⟨z, rfl⟩ := hC
        have h15 := hcl.off hL 20 15 (by kernel_rfl)
        have hx9 := (Ext.refl z.world).alloc (.cells #[.int .i64 pl, .slice a12 beds.length c12] 84)
        have hzs : N ≤ z.world.heap.size := by have := z.size; omega
        go_wp2
        refine ⟨⟨fun h => absurd h (by decide), fun h => absurd h (by decide), fun _ => ⟨_, rfl⟩, fun h => absurd h (by decide)⟩, ⟨z.ext hx9, rfl⟩, ⟨fun h => (hg.outer h15).ext hx9, fun h => (by simp [upd, h15] at h), fun h1 h2 => own_chg (hg.one h1 h2) (hx9.chg fun _ => False) (fun _ _ => id), fun h1 h2 => own_chg (hg.two h1 h15) (hx9.chg fun _ => False) (fun _ _ => id), fun _ _ => ⟨z.world.heap.size, rfl, ?_, fun e => by have := HVB.out _ e; omega⟩⟩⟩
        simp only [updv]
        rw [u12]
        exact heap_new _ _
      rw [u14]
      go_simp
      with_reducible refine hK _ ?_
      clear hK K
      refine lx_loud (by rfl) (by kernel_rfl) ?_ (fun K hK => ?_)
      · intro L w3 hL hd hcl hC hg
        obtain ⟨z, rfl⟩ := hC
        obtain ⟨kb, e14, hb14, -⟩ := hg.box (hd 14 (by kernel_rfl)) hL
        obtain rfl : kb = k14 := by rw [u14] at e14; cases e14; rfl
        have h12 : L 12 = true := hcl.on 20 (hd 14 (by kernel_rfl)) (by kernel_rfl)
        have hv := hg.outer hL
        have htw := hg.two h12 hL
        rw [u12] at hb14
        have hzs : w.heap.size ≤ z.world.heap.size := by have := z.size; omega
        have hlk : (l.take k).length = k := HTL.out
        refine wp_append_vals rfl _ _ 43 84 _ 2 32 rfl info_vis (by kernel_rfl) rfl (by decide) w.heap.size _ k (lvC (l.take k) us) rfl (by have := hv.outer; rw [hlk] at this; exact this) (some ⟨kb, 0, none⟩) 1 1 [.int .i64 pl, .slice a12 beds.length c12] rfl (fun h => by cases h) rfl (fun ad h j u hj => by
          cases h
          match j, hj with
          | 0, hj => (simp at hj; subst hj; simp [Addr.add, World.cell?, hb14])
          | 1, hj => (simp at hj; subst hj; simp [Addr.add, World.cell?, hb14])) (fun u hu => by simp at hu; rcases hu with rfl | rfl <;> rfl) (by omega) (by omega) hzs ?_
        intro v' w4 ho4 hg4
        have hvl := own_lt hv.outer
        have hP := hv.push (x := ⟨pl, beds⟩) (u := .slice a12 beds.length c12) (by have := own_mono htw (base' := w.heap.size) (by omega); rw [u12] at this; exact this) (by rw [hlk]; exact ho4) hg4
        have hC4 := grown_chg hg4
        obtain ⟨av, cv, rfl, -⟩ := hP.vis
        have hln : (l.take k ++ [(⟨pl, beds⟩ : LV)]).length = k + 1 := by rw [List.length_append, hlk]; rfl
        have HP := Lib.hid hP
        have HLN := Lib.hid hln
        clear hP ho4 hlk
        rw [hln] at HP
        clear hln
        go_wp2
        refine ⟨⟨fun h => absurd h (by decide), fun h => absurd h (by decide), fun h => absurd h (by decide), fun _ => ⟨_, _, rfl⟩⟩, ⟨z.chgd hC4 (fun i e => by have := hvl i e; by_cases hi : N ≤ i; exact .inl (by omega); exact .inr fun _ => ⟨by omega, by omega⟩), rfl⟩,
          ⟨fun h => (by simp [upd] at h), fun _ => ?_, fun h1 h2 => (by simp [upd, h12] at h2), fun _ h => (by simp [upd] at h), fun _ h => (by simp [upd] at h)⟩⟩
        simp only [updv]
        rw [u12]
        exact HP.out
      rw [u15]
      go_simp
      with_reducible refine hK _ ?_
      clear hK K
      refine lx_next 1 (by rfl) (by decide) ?_
      dsimp only [List.take, List.drop]
      repeat (go_big_quiet_step (fail))
      refine wpQuiet_nil ?_
      refine lx_nil ?_
      intro z hG
      have hd := hG.done rfl
      rw [u15] at hd
      have hx5 : Ext w z.world := Chg.to_ext hx z.chg (by rintro i ⟨_, h1, h2⟩; omega)
      rw [← HTK.out] at hd
      have HD := Lib.hid hd
      generalize z.world = W5 at *
      clear hG hd u6 u12 u14 u15 hu hT hne z p0 p1
      go_wp2
      go_roundw
      case rel => exact ⟨k + 1, _, by omega, by go_num, HD.out, hx5⟩
      case measure => simp [intOf]; omega
    · obtain rfl : k = l.length := by omega
      have hR := HR.out
      rw [List.take_of_length_le (Nat.le_refl _)] at hR
      have HRR := Lib.hid hR
      clear hR
      go_wp2
      go_ret
      exact ⟨_, _, rfl, HRR.out, hx⟩
end Go.Proofs.Ytocnglplhnhllaa
