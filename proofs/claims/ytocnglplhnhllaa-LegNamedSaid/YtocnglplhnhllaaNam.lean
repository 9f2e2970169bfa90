/-
  Chapter 3: a wrong visit among right ones, as data. No walk here.
-/
import Derived.Test.YtocnglplhnhllaaKep
import Derived.Test.YtocnglplhnhllaaTak
namespace Go.Proofs.Ytocnglplhnhllaa
theorem playL_split (r : Rul) : ∀ (l1 l2 : List LV) (g : Gm) (j : Int) (g' : Gm), playL r g j (l1 ++ l2) = (g', 0, 0) → ∃ g1, (∀ j', playL r g j' l1 = (g1, 0, 0)) ∧ (∀ j', playL r g1 j' l2 = (g', 0, 0))
  | [], l2, g, j, g', h => ⟨g, fun _ => rfl, fun j' => by
    have key : ∀ (l : List LV) (g : Gm) (j j' : Int), playL r g j l = (g', 0, 0) → playL r g j' l = (g', 0, 0) := by
      intro l
      induction l with
      | nil => intro g j j' h; exact h
      | cons v l ih =>
        intro g j j' h
        unfold playL at h ⊢
        split at h
        · rename_i h1
          simp only [Prod.mk.injEq] at h
          exact absurd h.2.2 h1
        · rename_i h1
          rw [if_neg h1]
          exact ih _ _ _ h
    exact key l2 g j j' h⟩
  | v :: l1, l2, g, j, g', h => by
    rw [List.cons_append] at h
    unfold playL at h
    split at h
    · rename_i h1
      simp only [Prod.mk.injEq] at h
      exact absurd h.2.2 h1
    · rename_i h1
      obtain ⟨g1, h2, h3⟩ := playL_split r l1 l2 _ _ g' h
      refine ⟨g1, fun j' => ?_, h3⟩
      unfold playL
      rw [if_neg h1]
      exact h2 _
theorem playL_ok {r : Rul} : ∀ {l : List LV} {g : Gm} {j : Int} {g' : Gm}, playL r g j l = (g', 0, 0) → ∀ j', fltL r g j' l = [] ∧ lasL r g l = g'
  | [], g, j, g', h, j' => by
    simp only [playL, Prod.mk.injEq] at h
    exact ⟨rfl, h.1⟩
  | v :: l, g, j, g', h, j' => by
    unfold playL at h
    split at h
    · rename_i h1
      simp only [Prod.mk.injEq] at h
      exact absurd h.2.2 h1
    · rename_i h1
      have := playL_ok h (j' + 1)
      unfold fltL lasL
      rw [if_neg h1, if_neg h1]
      exact this
/-- A wrong visit behind right ones, and right ones behind it. -/
theorem bad_play {r : Rul} {b : LV} {e d : Int} {l2 : List LV} {g1 g' : Gm} (hb : g1.step r b.player b.beds = (g1, d, e)) (he : e ≠ 0) (h2 : ∀ j, playL r g1 j l2 = (g', 0, 0)) : ∀ (l1 : List LV) (g : Gm) (j : Int), (∀ j', playL r g j' l1 = (g1, 0, 0)) →
    playL r g j (l1 ++ b :: l2) = (Gm.zero, j + l1.length, e) ∧ fltL r g j (l1 ++ b :: l2) = [⟨j + l1.length, d, e⟩] ∧ lasL r g (l1 ++ b :: l2) = g'
  | [], g, j, h => by
    have := h j
    simp only [playL, Prod.mk.injEq] at this
    obtain ⟨rfl, _⟩ := this
    have h3 := playL_ok (h2 (j + 1)) (j + 1)
    refine ⟨?_, ?_, ?_⟩
    · show playL r g j (b :: l2) = _
      unfold playL
      rw [hb, if_pos he]
      simp
    · show fltL r g j (b :: l2) = _
      unfold fltL
      rw [hb, if_pos he, h3.1]
      simp
    · show lasL r g (b :: l2) = _
      unfold lasL
      rw [hb, if_pos he, h3.2]
  | v :: l1, g, j, h => by
    have h0 := h j
    unfold playL at h0
    split at h0
    · rename_i h1
      simp only [Prod.mk.injEq] at h0
      exact absurd h0.2.2 h1
    · rename_i h1
      have hh : ∀ j', playL r (g.step r v.player v.beds).1 j' l1 = (g1, 0, 0) := fun j' => by
        have := h (j' - 1)
        unfold playL at this
        rw [if_neg h1] at this
        rw [show j' - 1 + 1 = j' by omega] at this
        exact this
      obtain ⟨i1, i2, i3⟩ := bad_play hb he h2 l1 _ (j + 1) hh
      have hj : j + 1 + (l1.length : Int) = j + ((v :: l1).length : Int) := by simp; omega
      rw [hj] at i1 i2
      refine ⟨?_, ?_, ?_⟩
      · rw [List.cons_append]; unfold playL; rw [if_neg h1]; exact i1
      · rw [List.cons_append]; unfold fltL; rw [if_neg h1]; exact i2
      · rw [List.cons_append]; unfold lasL; rw [if_neg h1]; exact i3
theorem thrW_join {gin gout : Int} : ∀ {l1 l2 : List Int} {j : Int} {x0 x1 : Thr}, thrW gin gout l1 j x0 = .inl x1 → thrW gin gout (l1 ++ l2) j x0 = thrW gin gout l2 (j + l1.length) x1
  | [], l2, j, x0, x1, h => by
    simp only [thrW, Sum.inl.injEq] at h
    subst h
    simp
  | b :: l1, l2, j, x0, x1, h => by
    unfold thrW at h
    split at h
    · cases h
    · rename_i h1
      split at h
      · cases h
      · rename_i h2
        rw [List.cons_append, thrW, if_neg h1, if_neg h2, thrW_join h, show j + 1 + (l1.length : Int) = j + ((b :: l1).length : Int) by simp; omega]
theorem thrW_pre {gin gout : Int} : ∀ {l1 l2 : List Int} {j : Int} {x0 x : Thr}, thrW gin gout (l1 ++ l2) j x0 = .inl x → l2 ≠ [] → ∃ x1, thrW gin gout l1 j x0 = .inl x1 ∧ x1.over = false
  | [], b :: l2, j, x0, x, h, _ => by
    rw [List.nil_append] at h
    unfold thrW at h
    split at h
    · cases h
    · rename_i h1
      exact ⟨x0, rfl, by simpa using h1⟩
  | [], [], _, _, _, _, h0 => absurd rfl h0
  | b :: l1, l2, j, x0, x, h, h0 => by
    rw [List.cons_append] at h
    unfold thrW at h
    split at h
    · cases h
    · rename_i h1
      split at h
      · cases h
      · rename_i h2
        obtain ⟨x1, h3, h4⟩ := thrW_pre h h0
        refine ⟨x1, ?_, h4⟩
        unfold thrW
        rw [if_neg h1, if_neg h2]
        exact h3
theorem thr_ok {gin gout left : Int} {inn : Bool} {bs : List Int} (h : (thr gin gout inn left bs).2.2 = 0) : ∃ x, thrW gin gout bs 0 ⟨left, 0, 0, inn, false, false⟩ = .inl x ∧ x.over = true := by
  unfold thr at h
  cases hw : thrW gin gout bs 0 ⟨left, 0, 0, inn, false, false⟩ with
  | inr e =>
    rw [hw] at h
    have key : ∀ {l : List Int} {j : Int} {x0 : Thr} {e : Int × Int}, thrW gin gout l j x0 = .inr e → e.2 ≠ 0 := by
      intro l
      induction l with
      | nil => intro j x0 e h; cases h
      | cons b l ih =>
        intro j x0 e h
        unfold thrW at h
        split at h
        · cases h; show (32 : Int) ≠ 0; decide
        · split at h
          · cases h; show (2 : Int) ≠ 0; decide
          · exact ih h
    exact absurd h (key hw)
  | inl x =>
    rw [hw] at h
    refine ⟨x, rfl, ?_⟩
    cases ho : x.over
    · simp [thrE, Thr.end, ho] at h
    · rfl
/-- A visit with a dart less, a dart more, a bed that there is not. -/
theorem thr_less {gin gout left : Int} {inn : Bool} {bs : List Int} (h : (thr gin gout inn left bs).2.2 = 0) (hl : 1 ≤ bs.length) : thr gin gout inn left (bs.take (bs.length - 1)) = (Thr.zero, -1, 31) := by
  obtain ⟨x, hx, -⟩ := thr_ok h
  have e : bs = bs.take (bs.length - 1) ++ bs.drop (bs.length - 1) := (List.take_append_drop _ _).symm
  rw [e] at hx
  obtain ⟨x1, h1, h2⟩ := thrW_pre hx (by intro e0; have := congrArg List.length e0; simp at this; omega)
  unfold thr
  rw [h1]
  simp [thrE, Thr.end, h2]
theorem thr_more {gin gout left : Int} {inn : Bool} {bs : List Int} (h : (thr gin gout inn left bs).2.2 = 0) (b : Int) : thr gin gout inn left (bs ++ [b]) = (Thr.zero, (bs.length : Int), 32) := by
  obtain ⟨x, hx, ho⟩ := thr_ok h
  unfold thr
  rw [thrW_join hx]
  unfold thrW
  rw [if_pos ho]
  simp [thrE]
theorem thr_wrong {gin gout left : Int} {inn : Bool} {bs : List Int} (h : (thr gin gout inn left bs).2.2 = 0) {d : Nat} (hd : d < bs.length) {b : Int} (hb : validB b = false) : thr gin gout inn left (bs.set d b) = (Thr.zero, (d : Int), 2) := by
  obtain ⟨x, hx, -⟩ := thr_ok h
  have e : bs = bs.take d ++ bs.drop d := (List.take_append_drop _ _).symm
  rw [e] at hx
  obtain ⟨x1, h1, h2⟩ := thrW_pre hx (by intro e0; have := congrArg List.length e0; simp at this; omega)
  have e2 : bs.set d b = bs.take d ++ (b :: bs.drop (d + 1)) := by
    rw [List.set_eq_take_append_cons_drop, if_pos hd]
  unfold thr
  rw [e2, thrW_join h1]
  unfold thrW
  rw [if_neg (by simp [h2]), if_pos hb]
  simp [thrE]
  omega
/-- What a wrong visit is refused as. -/
structure BadV (r : Rul) (l : List LV) (g : Gm) (i : Nat) (b : LV) (want dart : Int) : Prop where
  le : i ≤ l.length
  play : playL r (.begin r) 0 (l.take i ++ b :: l.drop i) = (Gm.zero, (i : Int), want)
  flt : fltL r (.begin r) 0 (l.take i ++ b :: l.drop i) = [⟨i, dart, want⟩]
  las : lasL r (.begin r) (l.take i ++ b :: l.drop i) = g
  fits : b.fits ∧ b.beds.length ≤ 10
theorem BadV.of {r : Rul} {l : List LV} {g : Gm} (h : playL r (.begin r) 0 l = (g, 0, 0)) {i : Nat} (hi : i ≤ l.length) {b : LV} {want dart : Int} (hw : want ≠ 0) (hf : b.fits ∧ b.beds.length ≤ 10)
    (hb : ∀ g1, (∀ j, playL r (.begin r) j (l.take i) = (g1, 0, 0)) → (∀ j, playL r g1 j (l.drop i) = (g, 0, 0)) → g1.step r b.player b.beds = (g1, dart, want)) : BadV r l g i b want dart := by
  rw [← List.take_append_drop i l] at h
  obtain ⟨g1, h1, h2⟩ := playL_split r _ _ _ _ _ h
  obtain ⟨a1, a2, a3⟩ := bad_play (hb g1 h1 h2) hw h2 (l.take i) (.begin r) 0 h1
  have hl : (0 : Int) + ((l.take i).length : Int) = i := by rw [List.length_take]; omega
  rw [hl] at a1 a2
  exact ⟨hi, a1, a2, a3, hf⟩
/-- The visit that is written over is right. -/
theorem right_at {r : Rul} {l : List LV} {g g1 : Gm} {i : Nat} (hi : i < l.length) (h2 : ∀ j, playL r g1 j (l.drop i) = (g, 0, 0)) : g1.over = false ∧ l[i].player = g1.next ∧ (0 ≤ l[i].player ∧ l[i].player < r.counts.length) ∧ (g1.thr r l[i].player.toNat l[i].beds).2.2 = 0 := by
  have := h2 0
  rw [List.drop_eq_getElem_cons hi] at this
  unfold playL at this
  split at this
  · rename_i h1
    simp only [Prod.mk.injEq] at this
    exact absurd this.2.2 h1
  · rename_i h1
    have h1' : (g1.step r l[i].player l[i].beds).2.2 = 0 := by simpa using h1
    unfold Gm.step at h1'
    split at h1'
    · rename_i h3
      exact absurd h1' h3
    · rename_i h3
      have hz := chkS_zero (Decidable.not_not.1 h3)
      split at h1'
      · rename_i h4; exact absurd h1' h4
      · rename_i h4
        exact ⟨hz.1, hz.2.1, hz.2.2, Decidable.not_not.1 h4⟩
section
variable {r : Rul} {l : List LV} {g : Gm} {i : Nat}
theorem bad_turn (h : playL r (.begin r) 0 l = (g, 0, 0)) (hi : i < l.length) (hf : l[i].fits ∧ l[i].beds.length ≤ 3) {p : Int} (hp : 0 ≤ p ∧ p < r.counts.length) (hne : p ≠ l[i].player) (hI : I64 p) : BadV r l g i ⟨p, l[i].beds⟩ 30 (-1) :=
  .of h (by omega) (by decide) ⟨⟨hI, hf.1.2⟩, by show l[i].beds.length ≤ 10; omega⟩ fun g1 _ h2 => by
    obtain ⟨h3, h4, h5, -⟩ := right_at hi h2
    have hc : chkS r.counts.length g1.next g1.over p = 30 := by
      unfold chkS
      have : ins 0 ((r.counts.length : Int) - 1) [p] = true := by rw [ins_one]; omega
      rw [h3, this, if_neg (by simp), if_neg (by simp), if_pos (by rw [← h4]; simpa using hne)]
    unfold Gm.step
    rw [hc, if_pos (by decide)]
theorem bad_nobody (h : playL r (.begin r) 0 l = (g, 0, 0)) (hi : i < l.length) (hf : l[i].fits ∧ l[i].beds.length ≤ 3) (hn : r.counts.length ≤ 100) : BadV r l g i ⟨r.counts.length, l[i].beds⟩ 2 (-1) :=
  .of h (by omega) (by decide) ⟨⟨⟨by simp only; omega, by simp only; omega⟩, hf.1.2⟩, by show l[i].beds.length ≤ 10; omega⟩ fun g1 _ h2 => by
    obtain ⟨h3, h4, h5, -⟩ := right_at hi h2
    have hc : chkS r.counts.length g1.next g1.over r.counts.length = 2 := by
      unfold chkS
      have : ins 0 ((r.counts.length : Int) - 1) [(r.counts.length : Int)] = false := by
        rw [Bool.eq_false_iff]
        intro h
        rw [ins_one] at h
        omega
      rw [h3, this, if_neg (by simp), if_pos rfl]
    unfold Gm.step
    rw [hc, if_pos (by decide)]
theorem bad_beds (h : playL r (.begin r) 0 l = (g, 0, 0)) (hi : i < l.length) {bs : List Int} {d e : Int} (he : e ≠ 0) (hf : (LV.mk l[i].player bs).fits ∧ bs.length ≤ 10) (hb : ∀ gin gout left inn, (thr gin gout inn left l[i].beds).2.2 = 0 → thr gin gout inn left bs = (.zero, d, e)) : BadV r l g i ⟨l[i].player, bs⟩ e d :=
  .of h (by omega) he hf fun g1 _ h2 => by
    obtain ⟨h3, h4, h5, h6⟩ := right_at hi h2
    have hc : chkS r.counts.length g1.next g1.over l[i].player = 0 := by
      unfold chkS
      have : ins 0 ((r.counts.length : Int) - 1) [l[i].player] = true := by rw [ins_one]; omega
      rw [h3, this, if_neg (by simp), if_neg (by simp), if_neg (by rw [← h4]; simp)]
    have ht : g1.thr r l[i].player.toNat bs = (Thr.zero, d, e) := hb _ _ _ _ h6
    unfold Gm.step
    simp only
    rw [hc, if_neg (by simp), ht, if_pos he]
theorem bad_over (h : playL r (.begin r) 0 l = (g, 0, 0)) (ho : g.over = true) {b : LV} (hf : b.fits ∧ b.beds.length ≤ 10) : BadV r l g l.length b 33 (-1) :=
  .of h (Nat.le_refl _) (by decide) hf fun g1 h1 h2 => by
    have e := h2 0
    rw [List.drop_length] at e
    simp only [playL, Prod.mk.injEq] at e
    obtain ⟨rfl, _⟩ := e
    unfold Gm.step chkS
    rw [if_pos ho, if_pos (by decide)]
end
end Go.Proofs.Ytocnglplhnhllaa
