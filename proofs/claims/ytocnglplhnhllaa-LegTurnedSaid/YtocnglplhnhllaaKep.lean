/-
  Package leg: a leg with and without its wrong visits, as data. No walk here.
-/
import Derived.Test.YtocnglplhnhllaaJud
import Derived.Test.YtocnglplhnhllaaApp
import Derived.Test.YtocnglplhnhllaaRfr
import Derived.Test.YtocnglplhnhllaaVit
namespace Go.Proofs.Ytocnglplhnhllaa
open Go.RowKit
theorem new_two (w : World) (a b : Value) (t : TypeId) : ∀ ad, some (⟨w.heap.size, 0, none⟩ : Addr) = some ad → ∀ j u, [a, b][j]? = some u → (w.alloc (.cells #[a, b] t)).cell? (ad.add j) = some u := by
  intro ad h j u hj
  cases h
  match j, hj with
  | 0, hj => simp at hj; subst hj; simp [addr_add, go_sem]
  | 1, hj => simp at hj; subst hj; simp [addr_add, go_sem]
theorem Ext.drewN {a w : World} (h : Ext a w) (n : Nat) : Ext a (w.drewN n) := Chg.to_ext h (S := fun _ => False) ⟨rfl, rfl, rfl, Nat.le_refl _, fun _ _ _ => rfl⟩ (fun _ h => h.elim)
/-- The cells at an address read as wrong visits. -/
def FltAt (w : World) (a : Option Addr) (fs : List Flt) : Prop :=
  ∀ i, (h : i < fs.length) → ∃ b o, a = some ⟨b, o, none⟩ ∧ w.cell? ⟨b, o + i * 3, none⟩ = some (.int .i64 fs[i].visit) ∧ w.cell? ⟨b, o + i * 3 + 1, none⟩ = some (.int .i64 fs[i].dart) ∧ w.cell? ⟨b, o + i * 3 + 2, none⟩ = some (.int .i64 fs[i].err)
theorem FltAt.ext {w w' : World} {a : Option Addr} {fs : List Flt} (h : FltAt w a fs) (hx : Ext w w') : FltAt w' a fs := fun i hi => by
  obtain ⟨b, o, e, h1, h2, h3⟩ := h i hi
  exact ⟨b, o, e, hx.cell h1, hx.cell h2, hx.cell h3⟩
theorem flt_get (l : List Flt) : ∀ (i : Nat) (h : i < l.length), (l.flatMap Flt.cells)[i * 3]? = some (.int .i64 l[i].visit) ∧ (l.flatMap Flt.cells)[i * 3 + 1]? = some (.int .i64 l[i].dart) ∧ (l.flatMap Flt.cells)[i * 3 + 2]? = some (.int .i64 l[i].err) := by
  induction l with
  | nil => intro i h; exact absurd h (by simp)
  | cons x l ih =>
    intro i h
    cases i with
    | zero => exact ⟨rfl, rfl, rfl⟩
    | succ i =>
      have := ih i (by simpa using h)
      rw [List.flatMap_cons, show (i + 1) * 3 = i * 3 + 3 by omega]
      exact this
theorem OwnF.flts {w : World} {base : Nat} {v : Value} {l : List Flt} (h : OwnF w base v l) : ∃ a c, v = .slice a l.length c ∧ FltAt w a l := by
  have hc := fun g (hg : v.ownBlock = some g) => World.ownsRow.cells (w := w) (g := g) h hg
  obtain ⟨h1, ⟨e, h2⟩ | ⟨g, cap, cur, e, h2, h3, h4⟩⟩ := h
  · have : l = [] := List.length_eq_zero_iff.1 h2
    subst this
    exact ⟨none, 0, e, fun i hi => absurd hi (by simp)⟩
  · refine ⟨some ⟨g, 0, none⟩, cap, e, fun i hi => ⟨g, 0, rfl, ?_, ?_, ?_⟩⟩
    · have := hc g (by rw [e]; rfl) (i * 3) _ (flt_get l i hi).1
      rwa [addr_add] at this
    · have := hc g (by rw [e]; rfl) (i * 3 + 1) _ (flt_get l i hi).2.1
      rwa [addr_add] at this
    · have := hc g (by rw [e]; rfl) (i * 3 + 2) _ (flt_get l i hi).2.2
      rwa [addr_add] at this
theorem thrW_at {gin gout : Int} : ∀ {beds : List Int} {i : Int} {x : Thr} {j e : Int}, thrW gin gout beds i x = .inr (j, e) → i ≤ j ∧ j < i + beds.length
  | [], _, _, _, _, h => by cases h
  | b :: l, i, x, j, e, h => by
    unfold thrW at h
    split at h
    · cases h; simp only [List.length_cons]; omega
    · split at h
      · cases h; simp only [List.length_cons]; omega
      · have := thrW_at h
        simp only [List.length_cons]; omega
theorem thr_at (gin gout left : Int) (inn : Bool) (beds : List Int) : -1 ≤ (thr gin gout inn left beds).2.1 ∧ (thr gin gout inn left beds).2.1 < beds.length := by
  unfold thr
  cases hw : thrW gin gout beds 0 ⟨left, 0, 0, inn, false, false⟩ with
  | inr e =>
    obtain ⟨i, e⟩ := e
    have := thrW_at hw
    simp only [thrE]; omega
  | inl y =>
    simp only [thrE, Thr.end]
    split
    · simp only; omega
    · split <;> simp only <;> omega
theorem step_at (r : Rul) (g : Gm) (p : Int) (beds : List Int) : -1 ≤ (g.step r p beds).2.1 ∧ (g.step r p beds).2.1 < beds.length := by
  unfold Gm.step
  split
  · simp only; omega
  · split
    · exact thr_at _ _ _ _ _
    · simp only; omega
theorem step_bad {r : Rul} {g : Gm} {p : Int} {beds : List Int} (h : (g.step r p beds).2.2 ≠ 0) : (g.step r p beds).1 = g := by
  unfold Gm.step at *
  split
  · rfl
  · rename_i h1
    rw [if_neg h1] at h
    split
    · rfl
    · rename_i h2
      rw [if_neg h2] at h
      exact absurd rfl h
/-- The visits that are wrong. -/
def fltL (r : Rul) : Gm → Int → List LV → List Flt
  | _, _, [] => []
  | g, i, v :: l => if (g.step r v.player v.beds).2.2 ≠ 0 then ⟨i, (g.step r v.player v.beds).2.1, (g.step r v.player v.beds).2.2⟩ :: fltL r g (i + 1) l else fltL r (g.step r v.player v.beds).1 (i + 1) l
/-- Those that are not, and the leg behind them. -/
def kepL (r : Rul) : Gm → List LV → List LV
  | _, [] => []
  | g, v :: l => if (g.step r v.player v.beds).2.2 ≠ 0 then kepL r g l else v :: kepL r (g.step r v.player v.beds).1 l
def lasL (r : Rul) : Gm → List LV → Gm
  | g, [] => g
  | g, v :: l => if (g.step r v.player v.beds).2.2 ≠ 0 then lasL r g l else lasL r (g.step r v.player v.beds).1 l
theorem judL_eq (r : Rul) : ∀ (l : List LV) (g : Gm) (i : Int) (fs : List Flt), judL r g i l fs = (lasL r g l, fs ++ fltL r g i l)
  | [], g, i, fs => by simp [judL, lasL, fltL]
  | v :: l, g, i, fs => by
    unfold judL lasL fltL
    by_cases h : (g.step r v.player v.beds).2.2 ≠ 0
    · rw [if_pos h, if_pos h, if_pos h, judL_eq r l, step_bad h]
      simp
    · rw [if_neg h, if_neg h, if_neg h, judL_eq r l]
theorem playL_kept (r : Rul) : ∀ (l : List LV) (g : Gm) (j : Int), playL r g j (kepL r g l) = (lasL r g l, 0, 0)
  | [], g, j => rfl
  | v :: l, g, j => by
    unfold kepL lasL
    by_cases h : (g.step r v.player v.beds).2.2 ≠ 0
    · rw [if_pos h, if_pos h]
      exact playL_kept r l g j
    · rw [if_neg h, if_neg h]
      unfold playL
      rw [if_neg h]
      exact playL_kept r l _ _
theorem playL_first (r : Rul) : ∀ (l : List LV) (g : Gm) (i : Int), playL r g i l = match fltL r g i l with | [] => (lasL r g l, 0, 0) | f :: _ => (.zero, f.visit, f.err)
  | [], g, i => rfl
  | v :: l, g, i => by
    unfold playL lasL fltL
    by_cases h : (g.step r v.player v.beds).2.2 ≠ 0
    · rw [if_pos h, if_pos h]
    · rw [if_neg h, if_neg h, if_neg h]
      exact playL_first r l _ _
theorem fltL_ge (r : Rul) : ∀ (l : List LV) (g : Gm) (i : Int), ∀ f ∈ fltL r g i l, i ≤ f.visit
  | [], _, _, f, h => by cases h
  | v :: l, g, i, f, h => by
    unfold fltL at h
    split at h
    · rcases List.mem_cons.1 h with rfl | h
      · exact Int.le_refl _
      · have := fltL_ge r l _ _ f h; omega
    · have := fltL_ge r l _ _ f h; omega
theorem fltL_err (r : Rul) : ∀ (l : List LV) (g : Gm) (i : Int), ∀ f ∈ fltL r g i l, f.err ≠ 0
  | [], _, _, f, h => by cases h
  | v :: l, g, i, f, h => by
    unfold fltL at h
    split at h
    · rename_i hne
      rcases List.mem_cons.1 h with rfl | h
      · exact hne
      · exact fltL_err r l _ _ f h
    · exact fltL_err r l _ _ f h
theorem kepL_length (r : Rul) : ∀ (l : List LV) (g : Gm), (kepL r g l).length ≤ l.length
  | [], _ => Nat.le_refl _
  | v :: l, g => by
    unfold kepL
    split
    · have := kepL_length r l g; simp only [List.length_cons]; omega
    · have := kepL_length r l (g.step r v.player v.beds).1; simp only [List.length_cons]; omega
theorem kepL_mem (r : Rul) : ∀ (l : List LV) (g : Gm), ∀ v ∈ kepL r g l, v ∈ l
  | [], _, v, h => by cases h
  | x :: l, g, v, h => by
    unfold kepL at h
    split at h
    · exact List.mem_cons_of_mem _ (kepL_mem r l _ v h)
    · rcases List.mem_cons.1 h with rfl | h
      · exact List.mem_cons_self ..
      · exact List.mem_cons_of_mem _ (kepL_mem r l _ v h)
/-- While the visits are parted by what Judge has named. -/
def KInv (r : Rul) (l : List LV) (fs : List Flt) (ks0 : List LV) (i k : Nat) (ks : List LV) : Prop :=
  ∃ g, fs.drop k = fltL r g i (l.drop i) ∧ ks ++ kepL r g (l.drop i) = ks0 ∧ k ≤ fs.length ∧ k ≤ i ∧ ks.length ≤ i
theorem KInv.start (r : Rul) (l : List LV) (g : Gm) : KInv r l (fltL r g 0 l) (kepL r g l) 0 0 [] := ⟨g, by simp, by simp, Nat.zero_le _, Nat.le_refl _, Nat.le_refl _⟩
theorem KInv.bounds {r : Rul} {l : List LV} {fs : List Flt} {ks0 ks : List LV} {i k : Nat} (h : KInv r l fs ks0 i k ks) : k ≤ fs.length ∧ k ≤ i ∧ ks.length ≤ i := let ⟨_, _, _, h3, h4, h5⟩ := h; ⟨h3, h4, h5⟩
theorem KInv.hit {r : Rul} {l : List LV} {fs : List Flt} {ks0 ks : List LV} {i k : Nat} (h : KInv r l fs ks0 i k ks) (hi : i < l.length) (hk : k < fs.length) (hv : fs[k].visit = i) : fs[k].err ≠ 0 ∧ (-1 ≤ fs[k].dart ∧ fs[k].dart < l[i].beds.length) ∧ KInv r l fs ks0 (i + 1) (k + 1) ks := by
  obtain ⟨g, h1, h2, h3, h4, h5⟩ := h
  have hd : l.drop i = l[i] :: l.drop (i + 1) := by simp
  have hf : fs.drop k = fs[k] :: fs.drop (k + 1) := by simp
  rw [hd] at h1 h2
  rw [hf] at h1
  unfold fltL at h1
  unfold kepL at h2
  split at h1
  · rename_i hne
    rw [if_pos hne] at h2
    injection h1 with e1 e2
    have hat := step_at r g l[i].player l[i].beds
    rw [e1]
    exact ⟨hne, hat, g, e2, h2, hk, by omega, by omega⟩
  · have := fltL_ge r _ _ _ fs[k] (by rw [← h1]; exact List.mem_cons_self ..)
    omega
theorem KInv.miss {r : Rul} {l : List LV} {fs : List Flt} {ks0 ks : List LV} {i k : Nat} (h : KInv r l fs ks0 i k ks) (hi : i < l.length) (hm : ∀ (hk : k < fs.length), fs[k].visit ≠ i) : KInv r l fs ks0 (i + 1) k (ks ++ [l[i]]) := by
  obtain ⟨g, h1, h2, h3, h4, h5⟩ := h
  have hd : l.drop i = l[i] :: l.drop (i + 1) := by simp
  rw [hd] at h1 h2
  unfold fltL at h1
  unfold kepL at h2
  split at h1
  · have hk : k < fs.length := by
      rcases Nat.lt_or_ge k fs.length with h | h
      · exact h
      · rw [List.drop_of_length_le h] at h1; cases h1
    have hf : fs.drop k = fs[k] :: fs.drop (k + 1) := by simp
    rw [hf] at h1
    injection h1 with e1 e2
    exact absurd (by rw [e1]) (hm hk)
  · rename_i hne
    rw [if_neg hne] at h2
    exact ⟨_, h1, by simpa using h2, h3, by omega, by simp; omega⟩
theorem KInv.end {r : Rul} {l : List LV} {fs : List Flt} {ks0 ks : List LV} {k : Nat} (h : KInv r l fs ks0 l.length k ks) : k = fs.length ∧ ks = ks0 := by
  obtain ⟨g, h1, h2, h3, _⟩ := h
  rw [List.drop_of_length_le (Nat.le_refl _)] at h1 h2
  simp only [fltL, List.drop_eq_nil_iff] at h1
  simp only [kepL, List.append_nil] at h2
  exact ⟨by omega, h2⟩
theorem fin_left (r : Rul) (g : Gm) : (g.fin r).left = g.left := by
  unfold Gm.fin
  split <;> rfl
theorem step_left (r : Rul) (g : Gm) (p : Int) (beds : List Int) : ((g.step r p beds).1).left.length = g.left.length := by
  unfold Gm.step
  split
  · rfl
  · split
    · rfl
    · simp only [fin_left, Gm.put, List.length_set]
theorem lasL_left (r : Rul) : ∀ (l : List LV) (g : Gm), (lasL r g l).left.length = g.left.length
  | [], g => rfl
  | v :: l, g => by
    unfold lasL
    split
    · exact lasL_left r l g
    · rw [lasL_left r l, step_left]
theorem newE_ok {r : Rul} {n : Int} (h : r.ok = true) (hn : n ≤ 2000) : newE r n = 0 := by
  unfold newE
  rw [h, if_neg (by simp), if_neg (by omega)]
theorem judS_ok {r : Rul} {l : List LV} (h : newE r l.length = 0) : judS r l = (lasL r (.begin r) l, fltL r (.begin r) 0 l, 0) := by
  unfold judS
  rw [if_neg (by simpa using h), judL_eq]
  simp [judE]
theorem playS_first {r : Rul} {l : List LV} (h : newE r l.length = 0) : playS r l = match fltL r (.begin r) 0 l with | [] => (lasL r (.begin r) l, 0, 0) | f :: _ => (.zero, f.visit, f.err) := by
  unfold playS
  rw [if_neg (by simpa using h), playL_first]
/-- What Play says of visits, of which Judge says which are wrong. -/
theorem playS_flt {r : Rul} {l : List LV} (h : newE r l.length = 0) : ∃ pg pat pe, playS r l = (pg, pat, pe) ∧ (fltL r (.begin r) 0 l = [] → pat = 0 ∧ pe = 0) ∧ (∀ f fs, fltL r (.begin r) 0 l = f :: fs → pat = f.visit ∧ pe = f.err ∧ f.err ≠ 0) := by
  have e := playS_first h
  have herr := fltL_err r l (.begin r) 0
  cases hf : fltL r (.begin r) 0 l with
  | nil => rw [hf] at e; exact ⟨_, _, _, e, fun _ => ⟨rfl, rfl⟩, fun f fs h => by cases h⟩
  | cons f fs =>
    rw [hf] at e herr
    exact ⟨_, _, _, e, fun h => (by cases h), fun f' fs' h => by cases h; exact ⟨rfl, rfl, herr f (List.mem_cons_self ..)⟩⟩
theorem playS_kept {r : Rul} {l : List LV} (h : r.ok = true) (hl : l.length ≤ 2000) : playS r (kepL r (.begin r) l) = (lasL r (.begin r) l, 0, 0) := by
  have := kepL_length r l (.begin r)
  unfold playS
  rw [newE_ok h (by omega), if_neg (by simp), playL_kept]
/-- Visits in a row of one's own, whose beds lie in an elder world. -/
structure KepO (w0 w : World) (base : Nat) (v : Value) (l : List LV) (us : List Value) : Prop where
  outer : w.ownsRow base 84 2 v l.length (lvC l us)
  len : us.length = l.length
  inner : ∀ i, (h : i < l.length) → ∃ a c, us[i]? = some (.slice a l[i].beds.length c) ∧ CellsAt w0 .i64 a l[i].beds ∧ (a = none → l[i].beds.length = 0 ∧ c = 0)
theorem KepO.ext {w0 w w' : World} {base : Nat} {v : Value} {l : List LV} {us : List Value} (h : KepO w0 w base v l us) (hx : Ext w w') : KepO w0 w' base v l us := ⟨own_chg h.outer (hx.chg fun _ => False) (fun _ _ => id), h.len, h.inner⟩
theorem KepO.nil {w0 w : World} {base : Nat} (h : base ≤ w.heap.size) : KepO w0 (w.alloc (.cells #[] 84)) base (.slice (some ⟨w.heap.size, 0, none⟩) 0 0) [] [] := ⟨own_empty rfl h, rfl, fun i hi => absurd hi (by simp)⟩
theorem KepO.push {w0 w w' : World} {base : Nat} {v v' : Value} {l : List LV} {us : List Value} (h : KepO w0 w base v l us) {x : LV} {a : Option Addr} {c : Nat} (hu : CellsAt w0 .i64 a x.beds ∧ (a = none → x.beds.length = 0 ∧ c = 0))
    (ho : w'.ownsRow base 84 2 v' (l.length + 1) (lvC l us ++ [.int .i64 x.player, .slice a x.beds.length c])) : KepO w0 w' base v' (l ++ [x]) (us ++ [.slice a x.beds.length c]) := by
  refine ⟨?_, by simp [h.len], fun i hi => ?_⟩
  · rw [lvC_append _ _ _ _ h.len, List.length_append]; exact ho
  · by_cases hil : i < l.length
    · obtain ⟨a', c', e, o⟩ := h.inner i hil
      rw [List.getElem_append_left hil]
      exact ⟨a', c', by rw [List.getElem?_append_left (by rw [h.len]; exact hil)]; exact e, o⟩
    · obtain rfl : i = l.length := by simp at hi; omega
      rw [List.getElem_append_right (by omega)]
      simp only [Nat.sub_self, List.getElem_cons_zero]
      exact ⟨a, c, by rw [List.getElem?_append_right (by rw [h.len]; omega), h.len]; simp, hu⟩
theorem KepO.shape {w0 w : World} {base : Nat} {v : Value} {l : List LV} {us : List Value} (h : KepO w0 w base v l us) : ∃ a c, v = .slice a l.length c ∧ (a = none → l.length = 0 ∧ c = 0) := by
  obtain ⟨h1, ⟨e, h2⟩ | ⟨g, cap, cur, e, _⟩⟩ := h.outer
  · exact ⟨none, 0, by rw [e, h2], fun _ => ⟨h2, rfl⟩⟩
  · exact ⟨_, _, e, fun h => by cases h⟩
theorem KepO.visIn {w0 w : World} {base : Nat} {a : Option Addr} {c : Nat} {l : List LV} {us : List Value} (h : KepO w0 w base (.slice a l.length c) l us) (hx : Ext w0 w) : VisIn w a l := by
  have hc := fun g (hg : (Value.slice a l.length c).ownBlock = some g) => World.ownsRow.cells (w := w) (g := g) h.outer hg
  have hgt := lvC_get l us h.len
  intro i hi
  obtain ⟨h1, ⟨e, h2⟩ | ⟨g, cap, cur, e, h2, h3, h4⟩⟩ := h.outer
  · omega
  · obtain ⟨a', c', hu, ht, hn⟩ := h.inner i hi
    injection e with e1 _ _
    have hg := hgt i hi
    subst e1
    have p0 := hc g rfl (i * 2) _ hg.1
    have p1 := hc g rfl (i * 2 + 1) _ (hg.2.trans hu)
    rw [addr_add] at p0 p1
    exact ⟨g, 0, a', c', rfl, p0, p1, ht.ext hx, hn⟩
end Go.Proofs.Ytocnglplhnhllaa
