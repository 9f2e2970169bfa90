/-
  Chapter 3: who has won, in the statement's words, as data. No walk here.
-/
import Derived.Test.YtocnglplhnhllaaKep
import Derived.Test.YtocnglplhnhllaaTak
namespace Go.Proofs.Ytocnglplhnhllaa
theorem playL_split (r : Rul) : ∀ (l1 l2 : List LV) (g : Gm) (j : Int) (g' : Gm), playL r g j (l1 ++ l2) = (g', 0, 0) → ∃ g1, (∀ j', playL r g j' l1 = (g1, 0, 0)) ∧ (∀ j', playL r g1 j' l2 = (g', 0, 0))
  | [], l2, g, j, g', h => ⟨g, fun _ => rfl, fun j' => by
    have key : ∀ (l : List LV) (g : Gm) (j j' : Int), playL r g j l = (g', 0, 0) → playL r g j' l = (g', 0, 0) := by
      intro l
      induction l with
      | nil => intro g j j' h; exact h
      | cons v l ih =>
        intro g j j' h
        unfold playL at h ⊢
        split at h
        · rename_i h1
          simp only [Prod.mk.injEq] at h
          exact absurd h.2.2 h1
        · rename_i h1
          rw [if_neg h1]
          exact ih _ _ _ h
    exact key l2 g j j' h⟩
  | v :: l1, l2, g, j, g', h => by
    rw [List.cons_append] at h
    unfold playL at h
    split at h
    · rename_i h1
      simp only [Prod.mk.injEq] at h
      exact absurd h.2.2 h1
    · rename_i h1
      obtain ⟨g1, h2, h3⟩ := playL_split r l1 l2 _ _ g' h
      refine ⟨g1, fun j' => ?_, h3⟩
      unfold playL
      rw [if_neg h1]
      exact h2 _
theorem playL_ok {r : Rul} : ∀ {l : List LV} {g : Gm} {j : Int} {g' : Gm}, playL r g j l = (g', 0, 0) → ∀ j', fltL r g j' l = [] ∧ lasL r g l = g'
  | [], g, j, g', h, j' => by
    simp only [playL, Prod.mk.injEq] at h
    exact ⟨rfl, h.1⟩
  | v :: l, g, j, g', h, j' => by
    unfold playL at h
    split at h
    · rename_i h1
      simp only [Prod.mk.injEq] at h
      exact absurd h.2.2 h1
    · rename_i h1
      have := playL_ok h (j' + 1)
      unfold fltL lasL
      rw [if_neg h1, if_neg h1]
      exact this
/-- A wrong visit behind right ones, and right ones behind it. -/
theorem bad_play {r : Rul} {b : LV} {e d : Int} {l2 : List LV} {g1 g' : Gm} (hb : g1.step r b.player b.beds = (g1, d, e)) (he : e ≠ 0) (h2 : ∀ j, playL r g1 j l2 = (g', 0, 0)) : ∀ (l1 : List LV) (g : Gm) (j : Int), (∀ j', playL r g j' l1 = (g1, 0, 0)) →
    playL r g j (l1 ++ b :: l2) = (Gm.zero, j + l1.length, e) ∧ fltL r g j (l1 ++ b :: l2) = [⟨j + l1.length, d, e⟩] ∧ lasL r g (l1 ++ b :: l2) = g'
  | [], g, j, h => by
    have := h j
    simp only [playL, Prod.mk.injEq] at this
    obtain ⟨rfl, _⟩ := this
    have h3 := playL_ok (h2 (j + 1)) (j + 1)
    refine ⟨?_, ?_, ?_⟩
    · show playL r g j (b :: l2) = _
      unfold playL
      rw [hb, if_pos he]
      simp
    · show fltL r g j (b :: l2) = _
      unfold fltL
      rw [hb, if_pos he, h3.1]
      simp
    · show lasL r g (b :: l2) = _
      unfold lasL
      rw [hb, if_pos he, h3.2]
  | v :: l1, g, j, h => by
    have h0 := h j
    unfold playL at h0
    split at h0
    · rename_i h1
      simp only [Prod.mk.injEq] at h0
      exact absurd h0.2.2 h1
    · rename_i h1
      have hh : ∀ j', playL r (g.step r v.player v.beds).1 j' l1 = (g1, 0, 0) := fun j' => by
        have := h (j' - 1)
        unfold playL at this
        rw [if_neg h1] at this
        rw [show j' - 1 + 1 = j' by omega] at this
        exact this
      obtain ⟨i1, i2, i3⟩ := bad_play hb he h2 l1 _ (j + 1) hh
      have hj : j + 1 + (l1.length : Int) = j + ((v :: l1).length : Int) := by simp; omega
      rw [hj] at i1 i2
      refine ⟨?_, ?_, ?_⟩
      · rw [List.cons_append]; unfold playL; rw [if_neg h1]; exact i1
      · rw [List.cons_append]; unfold fltL; rw [if_neg h1]; exact i2
      · rw [List.cons_append]; unfold lasL; rw [if_neg h1]; exact i3
theorem thrW_join {gin gout : Int} : ∀ {l1 l2 : List Int} {j : Int} {x0 x1 : Thr}, thrW gin gout l1 j x0 = .inl x1 → thrW gin gout (l1 ++ l2) j x0 = thrW gin gout l2 (j + l1.length) x1
  | [], l2, j, x0, x1, h => by
    simp only [thrW, Sum.inl.injEq] at h
    subst h
    simp
  | b :: l1, l2, j, x0, x1, h => by
    unfold thrW at h
    split at h
    · cases h
    · rename_i h1
      split at h
      · cases h
      · rename_i h2
        rw [List.cons_append, thrW, if_neg h1, if_neg h2, thrW_join h, show j + 1 + (l1.length : Int) = j + ((b :: l1).length : Int) by simp; omega]
theorem thrW_pre {gin gout : Int} : ∀ {l1 l2 : List Int} {j : Int} {x0 x : Thr}, thrW gin gout (l1 ++ l2) j x0 = .inl x → l2 ≠ [] → ∃ x1, thrW gin gout l1 j x0 = .inl x1 ∧ x1.over = false
  | [], b :: l2, j, x0, x, h, _ => by
    rw [List.nil_append] at h
    unfold thrW at h
    split at h
    · cases h
    · rename_i h1
      exact ⟨x0, rfl, by simpa using h1⟩
  | [], [], _, _, _, _, h0 => absurd rfl h0
  | b :: l1, l2, j, x0, x, h, h0 => by
    rw [List.cons_append] at h
    unfold thrW at h
    split at h
    · cases h
    · rename_i h1
      split at h
      · cases h
      · rename_i h2
        obtain ⟨x1, h3, h4⟩ := thrW_pre h h0
        refine ⟨x1, ?_, h4⟩
        unfold thrW
        rw [if_neg h1, if_neg h2]
        exact h3
theorem thr_ok {gin gout left : Int} {inn : Bool} {bs : List Int} (h : (thr gin gout inn left bs).2.2 = 0) : ∃ x, thrW gin gout bs 0 ⟨left, 0, 0, inn, false, false⟩ = .inl x ∧ x.over = true := by
  unfold thr at h
  cases hw : thrW gin gout bs 0 ⟨left, 0, 0, inn, false, false⟩ with
  | inr e =>
    rw [hw] at h
    have key : ∀ {l : List Int} {j : Int} {x0 : Thr} {e : Int × Int}, thrW gin gout l j x0 = .inr e → e.2 ≠ 0 := by
      intro l
      induction l with
      | nil => intro j x0 e h; cases h
      | cons b l ih =>
        intro j x0 e h
        unfold thrW at h
        split at h
        · cases h; show (32 : Int) ≠ 0; decide
        · split at h
          · cases h; show (2 : Int) ≠ 0; decide
          · exact ih h
    exact absurd h (key hw)
  | inl x =>
    rw [hw] at h
    refine ⟨x, rfl, ?_⟩
    cases ho : x.over
    · simp [thrE, Thr.end, ho] at h
    · rfl
/-- A visit with a dart less, a dart more, a bed that there is not. -/
theorem thr_less {gin gout left : Int} {inn : Bool} {bs : List Int} (h : (thr gin gout inn left bs).2.2 = 0) (hl : 1 ≤ bs.length) : thr gin gout inn left (bs.take (bs.length - 1)) = (Thr.zero, -1, 31) := by
  obtain ⟨x, hx, -⟩ := thr_ok h
  have e : bs = bs.take (bs.length - 1) ++ bs.drop (bs.length - 1) := (List.take_append_drop _ _).symm
  rw [e] at hx
  obtain ⟨x1, h1, h2⟩ := thrW_pre hx (by intro e0; have := congrArg List.length e0; simp at this; omega)
  unfold thr
  rw [h1]
  simp [thrE, Thr.end, h2]
theorem thr_more {gin gout left : Int} {inn : Bool} {bs : List Int} (h : (thr gin gout inn left bs).2.2 = 0) (b : Int) : thr gin gout inn left (bs ++ [b]) = (Thr.zero, (bs.length : Int), 32) := by
  obtain ⟨x, hx, ho⟩ := thr_ok h
  unfold thr
  rw [thrW_join hx]
  unfold thrW
  rw [if_pos ho]
  simp [thrE]
theorem thr_wrong {gin gout left : Int} {inn : Bool} {bs : List Int} (h : (thr gin gout inn left bs).2.2 = 0) {d : Nat} (hd : d < bs.length) {b : Int} (hb : validB b = false) : thr gin gout inn left (bs.set d b) = (Thr.zero, (d : Int), 2) := by
  obtain ⟨x, hx, -⟩ := thr_ok h
  have e : bs = bs.take d ++ bs.drop d := (List.take_append_drop _ _).symm
  rw [e] at hx
  obtain ⟨x1, h1, h2⟩ := thrW_pre hx (by intro e0; have := congrArg List.length e0; simp at this; omega)
  have e2 : bs.set d b = bs.take d ++ (b :: bs.drop (d + 1)) := by
    rw [List.set_eq_take_append_cons_drop, if_pos hd]
  unfold thr
  rw [e2, thrW_join h1]
  unfold thrW
  rw [if_neg (by simp [h2]), if_pos hb]
  simp [thrE]
  omega
/-- What a wrong visit is refused as. -/
structure BadV (r : Rul) (l : List LV) (g : Gm) (i : Nat) (b : LV) (want dart : Int) : Prop where
  le : i ≤ l.length
  play : playL r (.begin r) 0 (l.take i ++ b :: l.drop i) = (Gm.zero, (i : Int), want)
  flt : fltL r (.begin r) 0 (l.take i ++ b :: l.drop i) = [⟨i, dart, want⟩]
  las : lasL r (.begin r) (l.take i ++ b :: l.drop i) = g
  fits : b.fits ∧ b.beds.length ≤ 10
theorem BadV.of {r : Rul} {l : List LV} {g : Gm} (h : playL r (.begin r) 0 l = (g, 0, 0)) {i : Nat} (hi : i ≤ l.length) {b : LV} {want dart : Int} (hw : want ≠ 0) (hf : b.fits ∧ b.beds.length ≤ 10)
    (hb : ∀ g1, (∀ j, playL r (.begin r) j (l.take i) = (g1, 0, 0)) → (∀ j, playL r g1 j (l.drop i) = (g, 0, 0)) → g1.step r b.player b.beds = (g1, dart, want)) : BadV r l g i b want dart := by
  rw [← List.take_append_drop i l] at h
  obtain ⟨g1, h1, h2⟩ := playL_split r _ _ _ _ _ h
  obtain ⟨a1, a2, a3⟩ := bad_play (hb g1 h1 h2) hw h2 (l.take i) (.begin r) 0 h1
  have hl : (0 : Int) + ((l.take i).length : Int) = i := by rw [List.length_take]; omega
  rw [hl] at a1 a2
  exact ⟨hi, a1, a2, a3, hf⟩
/-- The visit that is written over is right. -/
theorem right_at {r : Rul} {l : List LV} {g g1 : Gm} {i : Nat} (hi : i < l.length) (h2 : ∀ j, playL r g1 j (l.drop i) = (g, 0, 0)) : g1.over = false ∧ l[i].player = g1.next ∧ (0 ≤ l[i].player ∧ l[i].player < r.counts.length) ∧ (g1.thr r l[i].player.toNat l[i].beds).2.2 = 0 := by
  have := h2 0
  rw [List.drop_eq_getElem_cons hi] at this
  unfold playL at this
  split at this
  · rename_i h1
    simp only [Prod.mk.injEq] at this
    exact absurd this.2.2 h1
  · rename_i h1
    have h1' : (g1.step r l[i].player l[i].beds).2.2 = 0 := by simpa using h1
    unfold Gm.step at h1'
    split at h1'
    · rename_i h3
      exact absurd h1' h3
    · rename_i h3
      have hz := chkS_zero (Decidable.not_not.1 h3)
      split at h1'
      · rename_i h4; exact absurd h1' h4
      · rename_i h4
        exact ⟨hz.1, hz.2.1, hz.2.2, Decidable.not_not.1 h4⟩
section
variable {r : Rul} {l : List LV} {g : Gm} {i : Nat}
theorem bad_turn (h : playL r (.begin r) 0 l = (g, 0, 0)) (hi : i < l.length) (hf : l[i].fits ∧ l[i].beds.length ≤ 3) {p : Int} (hp : 0 ≤ p ∧ p < r.counts.length) (hne : p ≠ l[i].player) (hI : I64 p) : BadV r l g i ⟨p, l[i].beds⟩ 30 (-1) :=
  .of h (by omega) (by decide) ⟨⟨hI, hf.1.2⟩, by show l[i].beds.length ≤ 10; omega⟩ fun g1 _ h2 => by
    obtain ⟨h3, h4, h5, -⟩ := right_at hi h2
    have hc : chkS r.counts.length g1.next g1.over p = 30 := by
      unfold chkS
      have : ins 0 ((r.counts.length : Int) - 1) [p] = true := by rw [ins_one]; omega
      rw [h3, this, if_neg (by simp), if_neg (by simp), if_pos (by rw [← h4]; simpa using hne)]
    unfold Gm.step
    rw [hc, if_pos (by decide)]
theorem bad_nobody (h : playL r (.begin r) 0 l = (g, 0, 0)) (hi : i < l.length) (hf : l[i].fits ∧ l[i].beds.length ≤ 3) (hn : r.counts.length ≤ 100) : BadV r l g i ⟨r.counts.length, l[i].beds⟩ 2 (-1) :=
  .of h (by omega) (by decide) ⟨⟨⟨by simp only; omega, by simp only; omega⟩, hf.1.2⟩, by show l[i].beds.length ≤ 10; omega⟩ fun g1 _ h2 => by
    obtain ⟨h3, h4, h5, -⟩ := right_at hi h2
    have hc : chkS r.counts.length g1.next g1.over r.counts.length = 2 := by
      unfold chkS
      have : ins 0 ((r.counts.length : Int) - 1) [(r.counts.length : Int)] = false := by
        rw [Bool.eq_false_iff]
        intro h
        rw [ins_one] at h
        omega
      rw [h3, this, if_neg (by simp), if_pos rfl]
    unfold Gm.step
    rw [hc, if_pos (by decide)]
theorem bad_beds (h : playL r (.begin r) 0 l = (g, 0, 0)) (hi : i < l.length) {bs : List Int} {d e : Int} (he : e ≠ 0) (hf : (LV.mk l[i].player bs).fits ∧ bs.length ≤ 10) (hb : ∀ gin gout left inn, (thr gin gout inn left l[i].beds).2.2 = 0 → thr gin gout inn left bs = (.zero, d, e)) : BadV r l g i ⟨l[i].player, bs⟩ e d :=
  .of h (by omega) he hf fun g1 _ h2 => by
    obtain ⟨h3, h4, h5, h6⟩ := right_at hi h2
    have hc : chkS r.counts.length g1.next g1.over l[i].player = 0 := by
      unfold chkS
      have : ins 0 ((r.counts.length : Int) - 1) [l[i].player] = true := by rw [ins_one]; omega
      rw [h3, this, if_neg (by simp), if_neg (by simp), if_neg (by rw [← h4]; simp)]
    have ht : g1.thr r l[i].player.toNat bs = (Thr.zero, d, e) := hb _ _ _ _ h6
    unfold Gm.step
    simp only
    rw [hc, if_neg (by simp), ht, if_pos he]
theorem bad_over (h : playL r (.begin r) 0 l = (g, 0, 0)) (ho : g.over = true) {b : LV} (hf : b.fits ∧ b.beds.length ≤ 10) : BadV r l g l.length b 33 (-1) :=
  .of h (Nat.le_refl _) (by decide) hf fun g1 h1 h2 => by
    have e := h2 0
    rw [List.drop_length] at e
    simp only [playL, Prod.mk.injEq] at e
    obtain ⟨rfl, _⟩ := e
    unfold Gm.step chkS
    rw [if_pos ho, if_pos (by decide)]
end
end Go.Proofs.Ytocnglplhnhllaa
namespace Go.Proofs.Ytocnglplhnhllaa
/-- What a player has left, while not ended. -/
def FitX (start gout : Int) (left : Int) (inn : Bool) : Prop := (leastS gout ≤ left ∧ left ≤ start) ∧ (inn = false → left = start)
theorem hit_fit {start gin gout b : Int} {x : Thr} (hv : validB b = true) (h : FitX start gout x.left x.inn) (hw : (x.hit gin gout b).won = false) : FitX start gout (x.hit gin gout b).left (x.hit gin gout b).inn := by
  have hb := wrt_bounds_valid hv
  unfold Thr.hit at hw ⊢
  split
  · exact h
  · rename_i h1
    rw [if_neg h1] at hw
    split
    · rename_i h2
      rw [if_pos h2] at hw
      cases hw
    · rename_i h2
      rw [if_neg h2] at hw
      split
      · exact h
      · rename_i h3
        obtain ⟨⟨h4, h5⟩, h6⟩ := h
        refine ⟨⟨?_, by simp only; omega⟩, fun e => by cases e⟩
        simp only [Bool.and_eq_true, decide_eq_true_eq, Bool.or_eq_true, bne_iff_ne, not_and, not_or, Decidable.not_not] at h3
        simp only [leastS]
        split
        · rename_i h7
          by_cases h8 : x.left - wrt b < 2
          · have := (h3 h8).1; omega
          · omega
        · rename_i h7
          by_cases h8 : x.left - wrt b < 2
          · exact absurd (h3 h8).2 h7
          · omega
theorem thrW_fit {start gin gout : Int} : ∀ {bs : List Int} {i : Int} {x y : Thr}, thrW gin gout bs i x = .inl y → (x.won = false → FitX start gout x.left x.inn) → y.won = false → FitX start gout y.left y.inn
  | [], _, x, y, h, hx, hy => by
    simp only [thrW, Sum.inl.injEq] at h
    subst h
    exact hx hy
  | b :: bs, i, x, y, h, hx, hy => by
    unfold thrW at h
    split at h
    · cases h
    · rename_i h1
      split at h
      · cases h
      · rename_i h2
        refine thrW_fit h (fun hw => ?_) hy
        have hxw : x.won = false := by
          cases hq : x.won
          · rfl
          · exact absurd (by simp [Thr.over, hq]) h1
        exact hit_fit (by simpa using h2) (hx hxw) hw
theorem thr_fit {start gin gout left : Int} {inn : Bool} {bs : List Int} (h0 : FitX start gout left inn) (h : (thr gin gout inn left bs).2.2 = 0) (hw : (thr gin gout inn left bs).1.won = false) : FitX start gout (thr gin gout inn left bs).1.left (thr gin gout inn left bs).1.inn := by
  obtain ⟨x, hx, ho⟩ := thr_ok h
  have e := thr_done hx ho
  rw [e] at hw ⊢
  by_cases hb : x.bust = true
  · rw [if_pos hb]
    exact h0
  · rw [if_neg hb] at hw ⊢
    have hw' : x.won = false := hw
    have := thrW_fit (start := start) hx (fun _ => h0) hw'
    exact this
theorem thr_place {gin gout left : Int} {inn : Bool} {bs : List Int} (h : (thr gin gout inn left bs).2.2 = 0) : (thr gin gout inn left bs).2.1 = -1 := by
  obtain ⟨x, hx, ho⟩ := thr_ok h
  rw [thr_done hx ho]
/-- All that have not ended stand well. -/
def Fit (r : Rul) (g : Gm) : Prop := ∀ p : Nat, p < r.counts.length → g.ended p = none → FitX (cntOf r p).start (cntOf r p).gout (g.left.getD p 0) (g.inn.getD p false)
theorem Fit.begin {r : Rul} (hr : r.ok = true) : Fit r (.begin r) := by
  intro p hp _
  have hc := Rul.ok_count hr (List.getElem_mem hp)
  have hb := cntB_start hc
  have e : cntOf r p = r.counts[p] := by simp [cntOf, List.getD_eq_getElem?_getD, hp]
  have e1 : (Gm.begin r).left.getD p 0 = r.counts[p].start := by simp [Gm.begin, List.getD_eq_getElem?_getD, hp]
  rw [e, e1]
  refine ⟨⟨?_, Int.le_refl _⟩, fun _ => rfl⟩
  unfold leastS
  split <;> omega
theorem Fit.step {r : Rul} {g : Gm} {p : Nat} {x : Thr} {bs : List Int} (h : Fit r g) (hp : p < r.counts.length) (hl : g.left.length = r.counts.length) (hi : g.inn.length = r.counts.length) (hx : g.thr r p bs = (x, -1, 0)) (hn : g.ended p = none) : Fit r ((g.put r p x).fin r) := by
  intro q hq he
  obtain ⟨f1, f2, f3, f4, f5, f6⟩ := tal_fin r (g.put r p x)
  rw [f1, f3]
  rw [f5] at he
  by_cases hqp : q = p
  · subst hqp
    have hw : x.won = false := by
      cases hw : x.won
      · rfl
      · simp [Gm.put, wonF, updF, hw] at he
    have h0 := h q hq hn
    have ht : (g.thr r q bs).2.2 = 0 := by rw [hx]
    have := thr_fit (start := (cntOf r q).start) h0 ht (by show (g.thr r q bs).1.won = false; rw [hx]; exact hw)
    have e1 : (g.put r q x).left.getD q 0 = x.left := by simp [Gm.put, List.getD_eq_getElem?_getD, hl, hq]
    have e2 : (g.put r q x).inn.getD q false = x.inn := by simp [Gm.put, List.getD_eq_getElem?_getD, hi, hq]
    rw [e1, e2]
    have e3 : thr (cntOf r q).gin (cntOf r q).gout (g.inn.getD q false) (g.left.getD q 0) bs = (x, -1, 0) := hx
    rw [e3] at this
    exact this
  · have e1 : (g.put r p x).left.getD q 0 = g.left.getD q 0 := by simp [Gm.put, List.getD_eq_getElem?_getD, List.getElem?_set_ne (Ne.symm hqp)]
    have e2 : (g.put r p x).inn.getD q false = g.inn.getD q false := by simp [Gm.put, List.getD_eq_getElem?_getD, List.getElem?_set_ne (Ne.symm hqp)]
    rw [e1, e2]
    refine h q hq ?_
    simp only [Gm.put, wonF] at he
    split at he
    · unfold updF at he
      rw [if_neg (by omega)] at he
      exact he
    · exact he
/-- Nobody who throws next has ended. -/
theorem TalI.free {r : Rul} {l : List LV} {g : Gm} {E A : List Int} (hr : r.ok = true) (h : TalI r l g E A) (ho : g.over = false) {p : Nat} (hp : (p : Int) = (r.first + (l.length : Int)) % (r.counts.length : Int)) : g.ended p = none := by
  have hl := Rul.ok_length hr
  have hml := Nat.mod_lt l.length (by omega : r.counts.length > 0)
  cases he : g.ended p with
  | none => rfl
  | some c =>
    obtain ⟨i, h1, -⟩ := (h.ended _ _).1 he
    obtain ⟨u, hu, e⟩ := h.fresh ho _ (List.mem_of_getElem? h1)
    rw [hp] at e
    have e2 : ((r.first + (l.length : Int)) - (r.first + ((l.length - l.length % r.counts.length + u : Nat) : Int))) % (r.counts.length : Int) = 0 := Int.emod_eq_emod_iff_emod_sub_eq_zero.1 e
    have hle := Nat.mod_le l.length r.counts.length
    rw [show (r.first + (l.length : Int)) - (r.first + ((l.length - l.length % r.counts.length + u : Nat) : Int)) = ((l.length % r.counts.length - u : Nat) : Int) by omega, Int.emod_eq_of_lt (by omega) (by omega)] at e2
    omega
/-- Each beginning of a leg is one, and stands well. -/
theorem tal_pre {r : Rul} (hr : r.ok = true) : ∀ (n : Nat) (l : List LV) (g : Gm), l.length = n → playL r (.begin r) 0 l = (g, 0, 0) → (∀ v ∈ l, v.fits ∧ (1 ≤ v.beds.length ∧ v.beds.length ≤ 3) ∧ ∀ b ∈ v.beds, validB b = true) → ∃ E A, TalI r l g E A ∧ Fit r g
  | 0, l, g, hn, h, _ => by
    obtain rfl := List.length_eq_zero_iff.1 hn
    simp only [playL, Prod.mk.injEq] at h
    obtain ⟨rfl, _⟩ := h
    exact ⟨[], [], TalI.begin hr, Fit.begin hr⟩
  | n + 1, l, g, hn, h, hf => by
    have hne : l ≠ [] := by intro e; subst e; simp at hn
    have hsp := List.dropLast_concat_getLast hne
    have hin : n < l.length := by omega
    obtain ⟨l0, hl0⟩ : ∃ l0, l.take n = l0 := ⟨_, rfl⟩
    have hll : l0.length = n := by rw [← hl0, List.length_take]; omega
    have hdr : l.drop n = [l[n]] := by rw [List.drop_eq_getElem_cons hin, List.drop_of_length_le (by omega)]
    have hta : l = l0 ++ [l[n]] := by rw [← hl0, ← hdr, List.take_append_drop]
    have h' := h
    rw [← List.take_append_drop n l] at h'
    obtain ⟨g1, h1, h2⟩ := playL_split r _ _ _ _ _ h'
    rw [hl0] at h1
    obtain ⟨r1, r2, r3, r4⟩ := right_at hin h2
    obtain ⟨E, A, hT, hF⟩ := tal_pre hr n l0 g1 hll (h1 0) (fun v hv => hf v (List.mem_of_mem_take (by rw [hl0]; exact hv)))
    obtain ⟨f1, f2, f3⟩ := hf _ (List.getElem_mem hin)
    obtain ⟨p, hp⟩ : ∃ p : Nat, l[n].player = p := ⟨l[n].player.toNat, by omega⟩
    rw [hp] at r2 r3 r4
    have hpp : (p : Int) = (r.first + (l0.length : Int)) % (r.counts.length : Int) := by rw [r2, hT.next r1]
    have hx : g1.thr r p l[n].beds = ((g1.thr r p l[n].beds).1, -1, 0) := by
      have e1 : (g1.thr r p l[n].beds).2.2 = 0 := by simpa using r4
      have e2 : (g1.thr r p l[n].beds).2.1 = -1 := thr_place e1
      exact Prod.ext rfl (Prod.ext e2 e1)
    have hs := (hT.step hr r1 hpp hx ⟨f2, f3⟩).1
    have hfit := hF.step (by omega) hT.ok.left hT.ok.inn hx (hT.free hr r1 hpp)
    have hv : (⟨(p : Int), l[n].beds⟩ : LV) = l[n] := by rw [← hp]
    rw [hv, ← hta] at hs
    have hg := hs.play
    rw [h] at hg
    obtain rfl : g = (g1.put r p (g1.thr r p l[n].beds).1).fin r := by
      have := congrArg Prod.fst hg
      exact this
    exact ⟨_, _, hs, hfit⟩
theorem hit_le {gin gout b : Int} {x : Thr} (hv : validB b = true) : (x.hit gin gout b).left ≤ x.left ∧ ((x.hit gin gout b).won = true → x.won = true ∨ (x.hit gin gout b).left = 0) := by
  have hb := wrt_bounds_valid hv
  unfold Thr.hit
  split
  · exact ⟨Int.le_refl _, fun h => .inl h⟩
  · split
    · rename_i h1
      simp only [Bool.and_eq_true, beq_iff_eq] at h1
      exact ⟨by simp only; omega, fun _ => .inr h1.1⟩
    · split
      · exact ⟨Int.le_refl _, fun h => by cases h⟩
      · exact ⟨by simp only; omega, fun h => by cases h⟩
theorem thrW_le {gin gout : Int} : ∀ {bs : List Int} {i : Int} {x y : Thr}, thrW gin gout bs i x = .inl y → (x.won = true → x.left = 0) → y.left ≤ x.left ∧ y.darts = x.darts + bs.length ∧ (y.won = true → y.left = 0)
  | [], _, x, y, h, hw => by
    simp only [thrW, Sum.inl.injEq] at h
    subst h
    exact ⟨Int.le_refl _, by simp, hw⟩
  | b :: bs, i, x, y, h, hw => by
    unfold thrW at h
    split at h
    · cases h
    · rename_i h1
      split at h
      · cases h
      · rename_i h2
        have hh := hit_le (gin := gin) (gout := gout) (x := x) (b := b) (by simpa using h2)
        have hxw : x.won = false := by
          cases hq : x.won
          · rfl
          · exact absurd (by simp [Thr.over, hq]) h1
        obtain ⟨h3, h4, h5⟩ := thrW_le h (fun e => by rcases hh.2 e with h6 | h6; rw [hxw] at h6; cases h6; exact h6)
        rw [Thr.hit_darts] at h4
        exact ⟨by omega, by rw [h4]; simp only [List.length_cons]; omega, h5⟩
/-- What a visit of a leg comes to by itself. -/
theorem vis_of {start gin gout left : Int} {inn : Bool} {bs : List Int} (hc : cntB start gin gout = true) (hf : FitX start gout left inn) (h : (thr gin gout inn left bs).2.2 = 0) :
    visS start gin gout inn left bs = ((thr gin gout inn left bs).1, 0) ∧ (thr gin gout inn left bs).1.score = left - (thr gin gout inn left bs).1.left ∧ 0 ≤ (thr gin gout inn left bs).1.score ∧ ((thr gin gout inn left bs).1.bust = true → (thr gin gout inn left bs).1.score = 0)
      ∧ (thr gin gout inn left bs).1.won = ((thr gin gout inn left bs).1.left == 0) ∧ (thr gin gout inn left bs).1.darts = bs.length := by
  obtain ⟨x, hx, ho⟩ := thr_ok h
  have e := thr_done hx ho
  obtain ⟨l1, l2, l3⟩ := thrW_le hx (fun h => by cases h)
  have hfit := thrW_fit (start := start) hx (fun _ => hf)
  have hls : 1 ≤ leastS gout := by unfold leastS; split <;> omega
  refine ⟨?_, ?_⟩
  · unfold visS
    rw [if_neg (by simp [hc]), if_neg (by rw [show ins (leastS gout) start [left] = true from ins_one.2 hf.1]; simp), if_neg (by rintro ⟨h1, h2⟩; have := hf.2 h1; simp [this] at h2), h]
  · rw [e]
    simp only at l1 l2
    by_cases hb : x.bust = true
    · rw [if_pos hb]
      have hbw : x.won = false := by
        cases hw : x.won
        · rfl
        · -- a dart that busts does not win
          have key : ∀ {bs : List Int} {i : Int} {x y : Thr}, thrW gin gout bs i x = .inl y → ¬ (x.won = true ∧ x.bust = true) → ¬ (y.won = true ∧ y.bust = true) := by
            intro bs
            induction bs with
            | nil => intro i x y h hn; simp only [thrW, Sum.inl.injEq] at h; subst h; exact hn
            | cons b bs ih =>
              intro i x y h hn
              unfold thrW at h
              split at h
              · cases h
              · split at h
                · cases h
                · refine ih h ?_
                  unfold Thr.hit
                  split
                  · exact hn
                  · split
                    · simp
                    · split <;> simp
          exact absurd ⟨hw, hb⟩ (key hx (by simp))
      refine ⟨by simp only; omega, by simp only; omega, fun _ => rfl, ?_, by simp only; omega⟩
      simp only [hbw]
      have := hf.1.1
      symm
      simp
      omega
    · rw [if_neg hb]
      refine ⟨rfl, by simp only; omega, fun h => absurd h hb, ?_, by simp only; omega⟩
      simp only
      cases hw : x.won
      · have := (hfit hw).1.1
        symm
        simp
        omega
      · have := l3 hw
        symm
        simpa using this
/-- A leg after its first i visits. -/
def TolI (r : Rul) (l : List LV) (i : Nat) (gi : Gm) : Prop := ∀ j, playL r (.begin r) j (l.take i) = (gi, 0, 0)
theorem TolI.start (r : Rul) (l : List LV) : TolI r l 0 (.begin r) := fun _ => rfl
theorem TolI.last {r : Rul} {l : List LV} {g gi : Gm} (h : TolI r l l.length gi) (hp : playL r (.begin r) 0 l = (g, 0, 0)) : gi = g := by
  have := h 0
  rw [List.take_length, hp] at this
  exact (congrArg Prod.fst this).symm
structure TolV (r : Rul) (l : List LV) (i : Nat) (gi : Gm) (v : LV) (p : Nat) (x : Thr) (gi' : Gm) : Prop where
  player : v.player = (p : Int)
  lt : p < r.counts.length
  left : gi.left.length = r.counts.length
  inn : gi.inn.length = r.counts.length
  vis : visS (cntOf r p).start (cntOf r p).gin (cntOf r p).gout (gi.inn.getD p false) (gi.left.getD p 0) v.beds = (x, 0)
  score : x.score = gi.left.getD p 0 - x.left
  pos : 0 ≤ x.score
  bust : x.bust = true → x.score = 0
  won : x.won = (x.left == 0)
  darts : x.darts = (v.beds.length : Int)
  next : TolI r l (i + 1) gi'
  left' : gi'.left = gi.left.set p x.left
  inn' : gi'.inn = gi.inn.set p x.inn
theorem TolI.next {r : Rul} (hr : r.ok = true) {l : List LV} {g gi : Gm} {E A : List Int} (hT : TalI r l g E A) {i : Nat} (h : TolI r l i gi) (hi : i < l.length) : ∃ p x gi', TolV r l i gi l[i] p x gi' := by
  have hp := hT.play
  rw [← List.take_append_drop i l] at hp
  obtain ⟨g1, h1, h2⟩ := playL_split r _ _ _ _ _ hp
  obtain rfl : g1 = gi := by have := h 0; rw [h1 0] at this; exact congrArg Prod.fst this
  obtain ⟨r1, r2, r3, r4⟩ := right_at hi h2
  obtain ⟨E', A', hT', hF⟩ := tal_pre hr i (l.take i) g1 (by rw [List.length_take]; omega) (h1 0) (fun v hv => hT.fits v (List.mem_of_mem_take hv))
  have hll : (l.take i).length = i := by rw [List.length_take]; omega
  obtain ⟨p, hpp⟩ : ∃ p : Nat, l[i].player = p := ⟨l[i].player.toNat, by omega⟩
  rw [hpp] at r2 r3 r4
  have hpm : (p : Int) = (r.first + ((l.take i).length : Int)) % (r.counts.length : Int) := by rw [r2, hT'.next r1]
  have hfit := hF p (by omega) (hT'.free hr r1 hpm)
  have hpn : p < r.counts.length := by omega
  have hcb : cntB (cntOf r p).start (cntOf r p).gin (cntOf r p).gout = true := by
    have e : cntOf r p = r.counts[p] := by simp [cntOf, List.getD_eq_getElem?_getD, hpn]
    rw [e]
    exact Rul.ok_count hr (List.getElem_mem hpn)
  have hth : (thr (cntOf r p).gin (cntOf r p).gout (g1.inn.getD p false) (g1.left.getD p 0) l[i].beds).2.2 = 0 := by
    rw [show ((p : Int)).toNat = p by simp] at r4
    exact r4
  obtain ⟨v1, v2, v3, v4, v5, v6⟩ := vis_of hcb hfit hth
  have hx : g1.thr r p l[i].beds = ((g1.thr r p l[i].beds).1, -1, 0) := Prod.ext rfl (Prod.ext (thr_place hth) hth)
  have hstep : g1.step r l[i].player l[i].beds = ((g1.put r p (g1.thr r p l[i].beds).1).fin r, -1, 0) := by
    have hc : chkS r.counts.length g1.next g1.over p = 0 := by
      unfold chkS
      rw [r1, ← r2, if_neg (by simp), if_neg (by simp [ins_one]; omega), if_neg (by simp)]
    unfold Gm.step
    rw [hpp, if_neg (by simp [hc]), show ((p : Int)).toNat = p by simp, hx, if_neg (by simp)]
  obtain ⟨f1, f2, f3, f4, f5, f6⟩ := tal_fin r (g1.put r p (g1.thr r p l[i].beds).1)
  refine ⟨p, _, (g1.put r p (g1.thr r p l[i].beds).1).fin r, hpp, hpn, hT'.ok.left, hT'.ok.inn, v1, v2, v3, v4, v5, v6, fun j => ?_, by rw [f1]; rfl, by rw [f3]; rfl⟩
  rw [List.take_succ_eq_append_getElem hi]
  have := playL_snoc r l[i] (l.take i) (.begin r) j g1 (h j) (by rw [hstep])
  rw [hstep] at this
  exact this
end Go.Proofs.Ytocnglplhnhllaa
namespace Go.Proofs.Ytocnglplhnhllaa
theorem least_iff {n : Nat} {f : Int → Option Int} {p : Nat} {c : Int} (hp : p < n) (hc : f p = some c) (h2 : c ≤ 1001) : c = leastF n f ↔ ∀ i : Nat, i < n → ∀ d, f i = some d → c ≤ d := by
  obtain ⟨h3, h4, h5⟩ := leastF_le (n := n) (f := f)
  constructor
  · intro e i hi d hd
    rw [e]
    exact h4 i hi d hd
  · intro h
    have h6 := h4 p hp c hc
    rcases h5 with h5 | ⟨i, hi, h5⟩
    · omega
    · have := h i hi _ h5
      omega
theorem mem_winS {n : Nat} {f : Int → Option Int} {p : Nat} (hp : p < n) : (p : Int) ∈ winS n f ↔ f p = some (leastF n f) := by
  unfold winS
  simp only [List.mem_filter, List.mem_map, List.mem_range, beq_iff_eq]
  exact ⟨fun h => h.2, fun h => ⟨⟨p, hp, rfl⟩, h⟩⟩
/-- The last word on a player, as the loops find it. -/
def foldB (ov : Bool) (A : List Int) (p : Int) : List Int → List Int → Bool → Bool
  | e :: E', a :: A', b => foldB ov A p E' A' (if e = p then ov && A.all (fun x => decide (a ≤ x)) else b)
  | _, _, b => b
theorem foldB_snoc (ov : Bool) (A : List Int) (p : Int) : ∀ (E' A' : List Int) (e a : Int) (b : Bool), E'.length = A'.length → foldB ov A p (E' ++ [e]) (A' ++ [a]) b = if e = p then ov && A.all (fun x => decide (a ≤ x)) else foldB ov A p E' A' b
  | [], [], e, a, b, _ => rfl
  | [], _ :: _, _, _, _, h => by simp at h
  | _ :: _, [], _, _, _, h => by simp at h
  | x :: E', y :: A', e, a, b, h => by
    simp only [List.cons_append, foldB]
    exact foldB_snoc ov A p E' A' e a _ (by simpa using h)
theorem foldB_out (ov : Bool) (A : List Int) (p : Int) : ∀ (E' A' : List Int) (b : Bool), p ∉ E' → foldB ov A p E' A' b = b
  | [], _, _, _ => rfl
  | _ :: _, [], _, _ => rfl
  | x :: E', y :: A', b, h => by
    simp only [foldB]
    have hne : ¬ x = p := by intro e; subst e; exact h List.mem_cons_self
    rw [if_neg hne]
    exact foldB_out ov A p E' A' b (fun h' => h (List.mem_cons_of_mem _ h'))
theorem foldB_in (ov : Bool) (A : List Int) (p : Int) : ∀ (E' A' : List Int) (b : Bool) (i : Nat) (a : Int), E'.Nodup → E'[i]? = some p → A'[i]? = some a → foldB ov A p E' A' b = (ov && A.all (fun x => decide (a ≤ x)))
  | [], _, _, _, _, _, h, _ => by simp at h
  | _ :: _, [], _, _, _, _, _, h => by simp at h
  | x :: E', y :: A', b, 0, a, hn, h1, h2 => by
    simp only [List.getElem?_cons_zero, Option.some.injEq] at h1 h2
    subst h1 h2
    simp only [foldB, ↓reduceIte]
    exact foldB_out ov A x E' A' _ (List.nodup_cons.1 hn).1
  | x :: E', y :: A', b, i + 1, a, hn, h1, h2 => by
    simp only [foldB]
    exact foldB_in ov A p E' A' _ i a (List.nodup_cons.1 hn).2 (by simpa using h1) (by simpa using h2)
def best0 (ov : Bool) (E left : List Int) (p : Nat) : Bool := (ov && decide (E.length = 0)) && left.all (fun x => decide (left.getD p 0 ≤ x))
theorem tol_best {r : Rul} (_hr : r.ok = true) {l : List LV} {g : Gm} {E A : List Int} (hT : TalI r l g E A) {p : Nat} (hp : p < r.counts.length) : foldB g.over A p E A (best0 g.over E g.left p) = decide ((p : Int) ∈ g.winners) := by
  have hpl : p < g.left.length := by rw [hT.ok.left]; exact hp
  cases ho : g.over
  · have hw : g.winners = [] := hT.ok.none ho
    rw [hw]
    by_cases hm : (p : Int) ∈ E
    · obtain ⟨i, hi, e⟩ := List.mem_iff_getElem.1 hm
      rw [foldB_in false A p E A _ i (A[i]'(by rw [hT.len]; exact hi)) hT.nodup (by rw [← e]; simp [hi]) (by simp)]
      simp
    · rw [foldB_out _ _ _ _ _ _ hm]
      simp [best0]
  · obtain ⟨-, hw, -⟩ := hT.shut ho
    rw [hw]
    rw [Bool.eq_iff_iff, decide_eq_true_iff, mem_winS hp]
    by_cases hE : 0 < E.length
    · rw [if_pos hE]
      by_cases hm : (p : Int) ∈ E
      · obtain ⟨i, hi, e⟩ := List.mem_iff_getElem.1 hm
        have hia : i < A.length := by rw [hT.len]; exact hi
        have hep : g.ended p = some A[i] := (hT.ended _ _).2 ⟨i, by rw [← e]; simp [hi], by simp [hia]⟩
        rw [foldB_in true A p E A _ i A[i] hT.nodup (by rw [← e]; simp [hi]) (by simp [hia]), hep]
        have hb := (hT.ok.ended _ _ hep).2
        have key := least_iff (n := r.counts.length) hp hep (by omega)
        simp only [Bool.true_and, List.all_eq_true, decide_eq_true_eq, Option.some.injEq]
        rw [key]
        constructor
        · intro h j hj d hd
          obtain ⟨k, -, h2⟩ := (hT.ended _ _).1 hd
          exact h d (List.mem_of_getElem? h2)
        · intro h d hd
          obtain ⟨k, hk, e2⟩ := List.mem_iff_getElem.1 hd
          have hek : g.ended (E[k]'(by rw [← hT.len]; exact hk)) = some A[k] := (hT.ended _ _).2 ⟨k, by simp, by simp [hk]⟩
          have hbk := (hT.ok.ended _ _ hek).1
          rw [← e2]
          exact h (E[k]'(by rw [← hT.len]; exact hk)).toNat (by omega) _ (by rw [show (((E[k]'(by rw [← hT.len]; exact hk)).toNat : Nat) : Int) = E[k]'(by rw [← hT.len]; exact hk) by omega]; exact hek)
      · rw [foldB_out _ _ _ _ _ _ hm]
        have hn : g.ended p = none := by
          cases he : g.ended p with
          | none => rfl
          | some c =>
            obtain ⟨i, h1, -⟩ := (hT.ended _ _).1 he
            exact absurd (List.mem_of_getElem? h1) hm
        rw [hn]
        have : ¬ E.length = 0 := by omega
        simp [best0, this]
    · rw [if_neg hE]
      have hE0 : E = [] := List.length_eq_zero_iff.1 (by omega)
      subst hE0
      have hlp : leftF g.left g.left.length p = some g.left[p] := by
        unfold leftF
        rw [if_pos (by omega)]
        simp [hpl]
      have hbd := hT.ok.lefts _ (List.getElem_mem hpl)
      have key := least_iff (n := r.counts.length) hp hlp (by omega)
      rw [hlp]
      simp only [foldB, best0, List.length_nil, decide_true, Bool.true_and, List.all_eq_true, decide_eq_true_eq, Option.some.injEq, List.getD_eq_getElem?_getD]
      rw [key]
      simp only [hpl, List.getElem?_eq_getElem, Option.getD_some]
      constructor
      · intro h j hj d hd
        unfold leftF at hd
        rw [if_pos (by rw [hT.ok.left]; omega)] at hd
        exact h d (List.mem_of_getElem? hd)
      · intro h d hd
        obtain ⟨k, hk, e2⟩ := List.mem_iff_getElem.1 hd
        exact h k (by rw [← hT.ok.left]; exact hk) d (by unfold leftF; rw [if_pos (by omega)]; simp [hk, e2])
/-- Who has won, found one by one. -/
theorem wins_all {r : Rul} (_hr : r.ok = true) {l : List LV} {g : Gm} {E A : List Int} (hT : TalI r l g E A) : ((List.range r.counts.length).map fun (p : Nat) => (p : Int)).filter (fun p => decide (p ∈ g.winners)) = g.winners := by
  cases ho : g.over
  · rw [hT.ok.none ho]
    simp
  · obtain ⟨-, hw, -⟩ := hT.shut ho
    rw [hw]
    generalize (if 0 < E.length then g.ended else leftF g.left g.left.length) = f
    conv => rhs; unfold winS
    refine List.filter_congr fun x hx => ?_
    obtain ⟨p, hp, rfl⟩ := List.mem_map.1 hx
    rw [Bool.eq_iff_iff, decide_eq_true_iff, mem_winS (List.mem_range.1 hp)]
    simp
/-- There is a winner just if it is over. -/
theorem wins_some {r : Rul} (hr : r.ok = true) {l : List LV} {g : Gm} {E A : List Int} (hT : TalI r l g E A) (ho : g.over = true) : 0 < g.winners.length := by
  have hl := Rul.ok_length hr
  obtain ⟨-, hw, -⟩ := hT.shut ho
  rw [hw]
  have key : ∀ (f : Int → Option Int), (∃ p : Nat, p < r.counts.length ∧ ∃ c, f p = some c ∧ c ≤ 1001) → 0 < (winS r.counts.length f).length := by
    rintro f ⟨p, hp, c, hc, hc2⟩
    obtain ⟨h3, h4, h5⟩ := leastF_le (n := r.counts.length) (f := f)
    have h6 := h4 p hp c hc
    rcases h5 with h5 | ⟨i, hi, h5⟩
    · omega
    · exact List.length_pos_of_mem ((mem_winS hi).2 h5)
  by_cases hE : 0 < E.length
  · rw [if_pos hE]
    have he : g.ended E[0] = some (A[0]'(by rw [hT.len]; exact hE)) := (hT.ended _ _).2 ⟨0, by simp, by simp⟩
    have hb := hT.ok.ended _ _ he
    exact key _ ⟨E[0].toNat, by omega, _, by rw [show ((E[0].toNat : Nat) : Int) = E[0] by omega]; exact he, by omega⟩
  · rw [if_neg hE]
    have h0 : 0 < g.left.length := by rw [hT.ok.left]; omega
    have hb := hT.ok.lefts _ (List.getElem_mem h0)
    exact key _ ⟨0, by omega, g.left[0], by unfold leftF; rw [if_pos (by omega)]; simp [h0], by omega⟩
end Go.Proofs.Ytocnglplhnhllaa
