/-
  The statements of chapter 3: copies of rules and of visits; long.
-/
import Derived.Test.YtocnglplhnhllaaJud
import Derived.Test.YtocnglplhnhllaaApp
namespace Go.Proofs.Ytocnglplhnhllaa
open Go.RowKit Go.BigFrame
attribute [local go_sem] Later.cell Later.frozen Lat.cell Lat.frozen
/-- Whether a leg is more than the statements look at. -/
def longS (n : Nat) (l : List LV) : Bool := l.any (fun v => decide (6 < v.beds.length)) || (decide (10 < n) || (decide (200 < l.length) && decide (l.length ≤ 2000)) || decide (2010 < l.length))
theorem longS_false {n : Nat} {l : List LV} (h : longS n l = false) : (∀ v ∈ l, v.beds.length ≤ 6) ∧ n ≤ 10 ∧ (l.length ≤ 200 ∨ 2000 < l.length) ∧ l.length ≤ 2010 := by
  unfold longS at h
  simp only [Bool.or_eq_false_iff, Bool.and_eq_false_iff, decide_eq_false_iff_not, List.any_eq_false, decide_eq_true_eq] at h
  refine ⟨fun v hv => by have := h.1 v hv; omega, ?_⟩
  omega
theorem law_long (r : Rul) (ca : Option Addr) (cc : Nat) (l : List LV) (la : Option Addr) (lc : Nat) (w : World) (hl : r.counts.length ≤ 9223372036854775807) (hV : VisAt w la l) (hf : ∀ v ∈ l, v.beds.length ≤ 9223372036854775807) (hll : l.length ≤ 9223372036854775807) :
    Calls Try.prog 18 #[.agg #[.slice ca r.counts.length cc, .int .i64 r.first, .int .i64 r.rounds, .bool r.equal], .slice la l.length lc] w fun e w' => e = .returned (.bool (longS r.counts.length l)) ∧ Ext w w' := by
  have HV := Lib.hid hV
  have HF := Lib.hid hf
  clear hV hf
  go_enter Try.func18, Try.ntmps18
  go_wp2
  go_loop [5] (fun i => ∃ k : Nat, k ≤ l.length ∧ i = .int .i64 k ∧ (∀ j, (h : j < l.length) → j < k → l[j].beds.length ≤ 6)) (fun i => l.length - (intOf i).toNat)
  case atStart => exact ⟨0, Nat.zero_le _, rfl, by omega⟩
  case round =>
    obtain ⟨k, hk, rfl, hall⟩ := hrel
    have H := Lib.hid hall
    clear hall
    by_cases hlt : k < l.length
    · obtain ⟨b, o, ba, bc, rfl, -, p1, -⟩ := HV.out k hlt
      have hbl := lt_of_cell p1
      have hbd := HF.out _ (List.getElem_mem hlt)
      have HE : Hid (l[k].beds.length = l[k].beds.length) := Lib.hid rfl
      have HB : 6 < l[k].beds.length → longS r.counts.length l = true := fun h => by
        unfold longS
        rw [List.any_eq_true.2 ⟨_, List.getElem_mem hlt, by simpa using h⟩]; rfl
      have HBH := Lib.hid HB
      clear HB
      have HK : Hid (l[k].beds.length ≤ 6 → ∀ j, (h : j < l.length) → j < k + 1 → l[j].beds.length ≤ 6) := Lib.hid fun h j hj hjk => by
        rcases Nat.lt_or_ge j k with h' | h'
        · exact H.out j hj h'
        · obtain rfl : j = k := by omega
          exact h
      clear H HE
      generalize l[k].beds.length = n at *
      by_cases h6 : 6 < n
      · go_wp2
        go_ret
        exact ⟨ret_bool (HBH.out h6).symm, (Ext.refl w).alloc _⟩
      · go_wp2
        go_round
        case rel => exact ⟨k + 1, by omega, by go_num, HK.out (by omega)⟩
        case measure => simp [intOf]; omega
    · have hE : longS r.counts.length l = (decide (10 < r.counts.length) || (decide (200 < l.length) && decide (l.length ≤ 2000)) || decide (2010 < l.length)) := by
        unfold longS
        rw [List.any_eq_false.2 (fun v hv => by
          obtain ⟨i, hi, rfl⟩ := List.mem_iff_getElem.1 hv
          have := H.out i hi (by omega)
          simpa using this), Bool.false_or]
      have HE := Lib.hid hE
      clear hE H
      by_cases h1 : 10 < r.counts.length
      · go_wp2
        go_ret
        exact ⟨ret_bool (by rw [HE.out, Bool.eq_iff_iff]; simp <;> omega), (Ext.refl w).alloc _⟩
      by_cases h2 : 200 < l.length
      · by_cases h3 : l.length ≤ 2000
        · go_wp2
          go_ret
          exact ⟨ret_bool (by rw [HE.out, Bool.eq_iff_iff]; simp <;> omega), (Ext.refl w).alloc _⟩
        · by_cases h4 : 2010 < l.length
          · go_wp2
            go_ret
            exact ⟨ret_bool (by rw [HE.out, Bool.eq_iff_iff]; simp <;> omega), (Ext.refl w).alloc _⟩
          · go_wp2
            go_ret
            exact ⟨ret_bool (by rw [HE.out, Bool.eq_iff_iff]; simp <;> omega), (Ext.refl w).alloc _⟩
      · by_cases h4 : 2010 < l.length
        · omega
        · go_wp2
          go_ret
          exact ⟨ret_bool (by rw [HE.out, Bool.eq_iff_iff]; simp <;> omega), (Ext.refl w).alloc _⟩
def Cnt.cells (c : Cnt) : List Value := [.int .i64 c.start, .int .i64 c.gin, .int .i64 c.gout]
theorem info_cnt : (Try.prog.info? 24).map (fun i => (i.zero, i.size, i.bytes)) = some (some (.agg #[.int .i64 0, .int .i64 0, .int .i64 0]), 3, 24) := by kernel_rfl
theorem cnt_length (l : List Cnt) : (l.flatMap Cnt.cells).length = l.length * 3 := by
  induction l with
  | nil => rfl
  | cons x l ih => simp only [List.flatMap_cons, List.length_append, ih, List.length_cons, Cnt.cells, List.length_nil]; omega
theorem cnt_get (l : List Cnt) : ∀ (i : Nat) (h : i < l.length), (l.flatMap Cnt.cells)[i * 3]? = some (.int .i64 l[i].start) ∧ (l.flatMap Cnt.cells)[i * 3 + 1]? = some (.int .i64 l[i].gin) ∧ (l.flatMap Cnt.cells)[i * 3 + 2]? = some (.int .i64 l[i].gout) := by
  induction l with
  | nil => intro i h; exact absurd h (by simp)
  | cons x l ih =>
    intro i h
    cases i with
    | zero => exact ⟨rfl, rfl, rfl⟩
    | succ i =>
      have := ih i (by simpa using h)
      rw [List.flatMap_cons, show (i + 1) * 3 = i * 3 + 3 by omega]
      exact this
theorem CntsAt.vals {w : World} {a : Option Addr} {l : List Cnt} (h : CntsAt w a l) : ∀ ad, a = some ad → ∀ j u, (l.flatMap Cnt.cells)[j]? = some u → w.cell? (ad.add j) = some u := by
  intro ad ha j u hu
  have hj := (List.getElem?_eq_some_iff.1 hu).1
  rw [cnt_length] at hj
  have hi : j / 3 < l.length := by omega
  obtain ⟨b, o, e, h0, h1, h2⟩ := h (j / 3) hi
  rw [ha] at e
  cases e
  have hg := cnt_get l (j / 3) hi
  rw [addr_add]
  rcases (by omega : j = j / 3 * 3 ∨ j = j / 3 * 3 + 1 ∨ j = j / 3 * 3 + 2) with hm | hm | hm
  · rw [← hm] at hg h0
    rw [hg.1] at hu
    cases hu
    exact h0
  · rw [Nat.add_assoc, ← hm] at h1
    rw [← hm] at hg
    rw [hg.2.1] at hu
    cases hu
    exact h1
  · rw [Nat.add_assoc, ← hm] at h2
    rw [← hm] at hg
    rw [hg.2.2] at hu
    cases hu
    exact h2
theorem cnt_one (l : List Cnt) : ∀ u ∈ l.flatMap Cnt.cells, u.oneCell' = true := by
  intro u hu
  obtain ⟨x, _, hx⟩ := List.mem_flatMap.1 hu
  simp [Cnt.cells] at hx
  rcases hx with rfl | rfl | rfl <;> rfl
theorem own_cnts {w : World} {base : Nat} {v : Value} {l : List Cnt} (h : w.ownsRow base 24 3 v l.length (l.flatMap Cnt.cells)) : ∃ a c, v = .slice a l.length c ∧ CntsAt w a l := by
  have hc := fun g (hg : v.ownBlock = some g) => World.ownsRow.cells (w := w) (g := g) h hg
  obtain ⟨h1, ⟨e, h2⟩ | ⟨g, cap, cur, e, h2, h3, h4⟩⟩ := h
  · have : l = [] := List.length_eq_zero_iff.1 h2
    subst this
    exact ⟨none, 0, e, fun i hi => absurd hi (by simp)⟩
  · refine ⟨some ⟨g, 0, none⟩, cap, e, fun i hi => ⟨g, 0, rfl, ?_, ?_, ?_⟩⟩
    · have := hc g (by rw [e]; rfl) (i * 3) _ (cnt_get l i hi).1
      rwa [addr_add] at this
    · have := hc g (by rw [e]; rfl) (i * 3 + 1) _ (cnt_get l i hi).2.1
      rwa [addr_add] at this
    · have := hc g (by rw [e]; rfl) (i * 3 + 2) _ (cnt_get l i hi).2.2
      rwa [addr_add] at this
theorem own_blk {b n c i : Nat} (e : (Value.slice (some ⟨b, 0, none⟩) n c).ownBlock = some i) : b = i := Option.some.inj e
theorem heap_at {w : World} {n : Nat} (o : Obj) (h : n = w.heap.size) : (w.alloc o).heap[n]? = some o := h ▸ heap_new w o
theorem four_set {w : World} {b : Nat} {v0 v1 v2 v3 : Value} (h : Blk w b #[v0, v1, v2, v3]) (x0 x1 x2 x3 : Value) :
    Blk ((((w.setCell ⟨b, 0, none⟩ x0).setCell ⟨b, 1, none⟩ x1).setCell ⟨b, 2, none⟩ x2).setCell ⟨b, 3, none⟩ x3) b #[x0, x1, x2, x3] := by
  have h0 : Blk _ b #[x0, v1, v2, v3] := h.set 0 x0
  have h1 : Blk _ b #[x0, x1, v2, v3] := h0.set 1 x1
  have h2 : Blk _ b #[x0, x1, x2, v3] := h1.set 2 x2
  have h3 : Blk _ b #[x0, x1, x2, x3] := h2.set 3 x3
  exact h3
theorem four_chg (S : Nat → Prop) (w : World) {b : Nat} (hb : S b) (x0 x1 x2 x3 : Value) : Chg S w ((((w.setCell ⟨b, 0, none⟩ x0).setCell ⟨b, 1, none⟩ x1).setCell ⟨b, 2, none⟩ x2).setCell ⟨b, 3, none⟩ x3) :=
  ((((Chg.refl S w).setCell (.inr hb) x0).setCell (.inr hb) x1).setCell (.inr hb) x2).setCell (.inr hb) x3
theorem CntsAt.of_own {w : World} {base : Nat} {a : Option Addr} {c : Nat} {l : List Cnt} (h : w.ownsRow base 24 3 (.slice a l.length c) l.length (l.flatMap Cnt.cells)) : CntsAt w a l := by
  obtain ⟨a', c', e, h'⟩ := own_cnts h
  cases e
  exact h'
/-- A copy of rules. -/
def RulP (w : World) (r : Rul) (e : Ending) (w' : World) : Prop := ∃ a c, e = .returned (.agg #[.slice a r.counts.length c, .int .i64 r.first, .int .i64 r.rounds, .bool r.equal]) ∧ w'.ownsRow w.heap.size 24 3 (.slice a r.counts.length c) r.counts.length (r.counts.flatMap Cnt.cells) ∧ CntsAt w' a r.counts ∧ Ext w w'
theorem law_rules (r : Rul) (ca : Option Addr) (cc : Nat) (w : World) (hC : CntsAt w ca r.counts) (hl : r.counts.length ≤ 1000000) (hn : ca = none → r.counts.length = 0 ∧ cc = 0) :
    Calls Try.prog 19 #[.agg #[.slice ca r.counts.length cc, .int .i64 r.first, .int .i64 r.rounds, .bool r.equal]] w (RulP w r) := by
  have HC := Lib.hid hC
  have HN := Lib.hid hn
  clear hC hn
  obtain ⟨cs, first, rounds, equal⟩ := r
  simp only at *
  go_enter Try.func19, Try.ntmps19
  go_wp2_with (at_builtin; refine wp_append_vals rfl _ _ 40 24 _ 3 24 rfl info_cnt (by kernel_rfl) rfl (by decide) w.heap.size _ 0 [] rfl (own_empty (by simp) (by omega)) ca cs.length cc (cs.flatMap Cnt.cells) rfl HN.out (cnt_length cs) (CntsAt.vals (HC.out.ext (by exact (((Ext.refl w).alloc _).alloc _).alloc _))) (cnt_one cs) (by omega) (by omega) (by simp; omega) ?_)
  intro v1 w1 ho1 hg1
  have ho1' : w1.ownsRow w.heap.size 24 3 v1 cs.length (cs.flatMap Cnt.cells) := by simpa using ho1
  have hC1 := grown_chg hg1
  have hE1 : Ext w w1 := Chg.to_ext ((((Ext.refl w).alloc _).alloc _).alloc _) hC1 (fun i e => by have := own_blk e; omega)
  have hb1 : Blk w1 w.heap.size #[.slice ca cs.length cc, .int .i64 first, .int .i64 rounds, .bool equal] := ((((Blk.new w _ _).alloc _).alloc _).chg hC1 (fun e => by have := own_blk e; omega))
  have hz1 : Blk w1 (w.heap.size + 1) #[.slice none 0 0, .int .i64 0, .int .i64 0, .bool false] := ((Blk.at _ (by simp)).alloc _).chg hC1 (fun e => by have := own_blk e; omega)
  obtain ⟨a, c, rfl, hat⟩ := own_cnts ho1'
  have h0 : w1.heap[w.heap.size]? = some (.cells #[.slice ca cs.length cc, .int .i64 first, .int .i64 rounds, .bool equal] 42 (0, 0)) := hC1.heap ((((Ext.refl (w.alloc _)).alloc _).alloc _).heap (heap_new w _)) (fun e => by have := own_blk e; omega)
  have h1 : w1.heap[w.heap.size + 1]? = some (.cells #[.slice none 0 0, .int .i64 0, .int .i64 0, .bool false] 42 (0, 0)) := hC1.heap (((Ext.refl _).alloc _).heap (heap_at _ (by simp))) (fun e => by have := own_blk e; omega)
  have n0 := ne_of_type ho1' h0 (by decide)
  have n1 := ne_of_type ho1' h1 (by decide)
  have HN0 := Lib.hid n0
  have HN1 := Lib.hid n1
  have c1 := hb1.cell 1 (v := .int .i64 first) rfl
  have c2 := hb1.cell 2 (v := .int .i64 rounds) rfl
  have c3 := hb1.cell 3 (v := .bool equal) rfl
  have c0 := hb1.cell 0 (v := .slice ca cs.length cc) rfl
  have hl1 := hz1.lt
  have f0 := hb1.frozen 0
  have z0 := hz1.cell 0 (v := .slice none 0 0) rfl
  have z1 := hz1.cell 1 (v := .int .i64 0) rfl
  have z2 := hz1.cell 2 (v := .int .i64 0) rfl
  have z3 := hz1.cell 3 (v := .bool false) rfl
  have g0 := hz1.frozen 0
  have g1 := hz1.frozen 1
  have g2 := hz1.frozen 2
  have g3 := hz1.frozen 3
  have HE1 := Lib.hid hE1
  have HZ1 := Lib.hid hz1
  have HO := Lib.hid ho1'
  clear hat
  clear hb1 hz1 h0 h1 n0 n1 ho1 ho1' hg1 hC1 hE1
  go_wp2
  generalize hW : World.setCell _ _ _ = W
  have hx1 := Chg.setCell (S := (fun k => k = w.heap.size ∨ k = w.heap.size + 1)) (Chg.refl _ w1) (p := ⟨w.heap.size, 0, none⟩) (.inr (.inl rfl)) (.slice a cs.length c)
  have hB := four_set (HZ1.out.other (a := ⟨w.heap.size, 0, none⟩) (by show _ ≠ _; simp) (.slice a cs.length c)) (.slice a cs.length c) (.int .i64 first) (.int .i64 rounds) (.bool equal)
  have hchg := hx1.trans (four_chg (fun k => k = w.heap.size ∨ k = w.heap.size + 1) (w1.setCell ⟨w.heap.size, 0, none⟩ (.slice a cs.length c)) (b := w.heap.size + 1) (.inr rfl) (.slice a cs.length c) (.int .i64 first) (.int .i64 rounds) (.bool equal))
  rw [hW] at hB hchg
  have q0 := hB.cell 0 (v := .slice a cs.length c) rfl
  have q1 := hB.cell 1 (v := .int .i64 first) rfl
  have q2 := hB.cell 2 (v := .int .i64 rounds) rfl
  have q3 := hB.cell 3 (v := .bool equal) rfl
  refine bodyPost_ret (v := .agg #[.slice a cs.length c, .int .i64 first, .int .i64 rounds, .bool equal]) (by simp [results, Try.results19, go_sem, q0, q1, q2, q3]) rfl ?_
  have hO := own_chg HO.out hchg (fun k hk hs => by rcases hs with rfl | rfl; exact HN0.out hk; exact HN1.out hk)
  exact ⟨a, c, rfl, hO, CntsAt.of_own hO, Chg.to_ext HE1.out hchg (by rintro i (rfl | rfl) <;> omega)⟩
end Go.Proofs.Ytocnglplhnhllaa
