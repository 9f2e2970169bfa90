/-
  TopFewestDarts: what is said of a leg that was thrown.
-/
import Derived.Test.YtpifdeglhalefaaWpa
import Derived.Test.YtpifdeglhalefaaOul
import Derived.Test.YtpifdeglhalefaaFdc
import Derived.Test.YtpifdeglhalefaaFdb
namespace Go.Proofs.Ytpifdeglhalefaa
open Go.RowKit
/-- The fewest darts. -/
def fewA (g : Int) (beds : List Int) (s : Nat) : Int := (fewO g beds s).getD s 0
theorem few_at {g : Int} {beds : List Int} {s : Nat} : ∀ m, s ≤ m → (fewO g beds m).getD s 0 = fewA g beds s
  | 0, h => by obtain rfl : s = 0 := by omega
               rfl
  | m + 1, h => by
    by_cases e : s = m + 1
    · rw [e]; rfl
    · have h1 := few_at (g := g) (beds := beds) m (show s ≤ m by omega)
      have h2 := fewO_len g beds m
      rw [← h1, fewO, List.getD_eq_getElem?_getD, List.getElem?_append_left (by omega), ← List.getD_eq_getElem?_getD]
theorem few_succ (g : Int) (beds : List Int) (s : Nat) : fewA g beds (s + 1) = fewB (fewO g beds s) (thwO g beds ((s : Int) + 1)) (-1) := by
  have h2 := fewO_len g beds s
  unfold fewA
  rw [fewO, List.getD_eq_getElem?_getD, List.getElem?_append_right (by omega), h2]
  simp
theorem fewB_cons (l : List Int) (p : Int × Int) (t : List (Int × Int)) (b : Int) : fewB l (p :: t) b = fewB l t (if l.getD p.2.toNat 0 ≠ -1 ∧ (b = -1 ∨ l.getD p.2.toNat 0 + 1 < b) then l.getD p.2.toNat 0 + 1 else b) := rfl
theorem fewB_keep {l : List Int} {m : Int} : ∀ (t : List (Int × Int)) (b : Int), (∀ p ∈ t, -1 ≤ l.getD p.2.toNat 0) → b ≠ -1 → b ≤ m → fewB l t b ≠ -1 ∧ fewB l t b ≤ m
  | [], _, _, h1, h2 => ⟨h1, h2⟩
  | p :: t, b, h, h1, h2 => by
    have h0 := h p (by simp)
    rw [fewB_cons]
    refine fewB_keep t _ (fun q hq => h q (by simp [hq])) ?_ ?_
    · split <;> omega
    · split <;> omega
theorem fewB_le {l : List Int} : ∀ (t : List (Int × Int)) (b : Int) (p : Int × Int), (∀ q ∈ t, -1 ≤ l.getD q.2.toNat 0) → p ∈ t → l.getD p.2.toNat 0 ≠ -1 → fewB l t b ≠ -1 ∧ fewB l t b ≤ l.getD p.2.toNat 0 + 1
  | [], _, _, _, hp, _ => by cases hp
  | q :: t, b, p, h, hp, h1 => by
    have h0 := h q (by simp)
    rw [fewB_cons]
    rcases List.mem_cons.1 hp with rfl | hp
    · refine fewB_keep t _ (fun q hq => h q (by simp [hq])) ?_ ?_
      · split <;> omega
      · split <;> omega
    · exact fewB_le t _ p (fun q hq => h q (by simp [hq])) hp h1
theorem fewB_from {l : List Int} : ∀ (t : List (Int × Int)) (b : Int), (fewB l t b = b) ∨ ∃ p ∈ t, l.getD p.2.toNat 0 ≠ -1 ∧ fewB l t b = l.getD p.2.toNat 0 + 1
  | [], _ => .inl rfl
  | q :: t, b => by
    rw [fewB_cons]
    rcases fewB_from t (if l.getD q.2.toNat 0 ≠ -1 ∧ (b = -1 ∨ l.getD q.2.toNat 0 + 1 < b) then l.getD q.2.toNat 0 + 1 else b) with h | ⟨p, hp, h1, h2⟩
    · rw [h]
      split
      case isTrue hc => exact .inr ⟨q, by simp, hc.1, rfl⟩
      · exact .inl rfl
    · exact .inr ⟨p, by simp [hp], h1, h2⟩
theorem few_ge (g : Int) (beds : List Int) (hw : ∀ x ∈ beds, 1 ≤ wrt x) : ∀ s, -1 ≤ fewA g beds s ∧ (0 < s → fewA g beds s ≠ 0) := by
  intro s
  induction s using Nat.strongRecOn with
  | ind s ih =>
    cases s with
    | zero => exact ⟨by show (-1 : Int) ≤ 0; omega, fun h => by omega⟩
    | succ s =>
      rw [few_succ]
      rcases fewB_from (l := fewO g beds s) (thwO g beds ((s : Int) + 1)) (-1) with h | ⟨p, hp, h1, h2⟩
      · rw [h]; omega
      · obtain ⟨x, hx, h3, h4, rfl⟩ := thwW_mem.1 hp
        have h5 := aftW_le h3
        have h6 := hw x hx
        obtain ⟨q, hq⟩ := Int.eq_ofNat_of_zero_le h5
        rw [h2]
        simp only [hq, Int.toNat_natCast] at h1 ⊢
        rw [few_at s (by omega)] at h1 ⊢
        have := (ih q (by omega)).1
        omega
theorem few_row {g : Int} {beds : List Int} (hw : ∀ x ∈ beds, 1 ≤ wrt x) (s : Nat) : ∀ p ∈ thwO g beds ((s : Int) + 1), ∃ q : Nat, q ≤ s ∧ p.2 = (q : Int) ∧ (fewO g beds s).getD p.2.toNat 0 = fewA g beds q := by
  intro p hp
  obtain ⟨x, hx, h3, h4, rfl⟩ := thwW_mem.1 hp
  have h5 := aftW_le h3
  have h6 := hw x hx
  obtain ⟨q, hq⟩ := Int.eq_ofNat_of_zero_le h5
  refine ⟨q, by omega, hq, ?_⟩
  simp only [hq, Int.toNat_natCast]
  exact few_at s (by omega)
theorem few_step {g : Int} {beds : List Int} (hw : ∀ x ∈ beds, 1 ≤ wrt x) {s q : Nat} {b : Int} (hb : b ∈ beds) (ha : aftB g s b = true) (h0 : 0 < s) (hq : (s : Int) - wrt b = q) (hf : fewA g beds q ≠ -1) : fewA g beds s ≠ -1 ∧ fewA g beds s ≤ fewA g beds q + 1 := by
  obtain ⟨n, rfl⟩ : ∃ n, s = n + 1 := ⟨s - 1, by omega⟩
  rw [few_succ]
  have hp : ((b, ((n + 1 : Nat) : Int) - wrt b) : Int × Int) ∈ thwO g beds ((n : Int) + 1) := thwW_mem.2 ⟨b, hb, by push_cast at ha; exact ha, by omega, by push_cast; rfl⟩
  have hrow := few_row (g := g) hw n
  obtain ⟨q', hq1, hq2, hq3⟩ := hrow _ hp
  have e : q' = q := by simp only at hq2; omega
  subst e
  obtain ⟨k1, k2⟩ := fewB_le (l := fewO g beds n) (thwO g beds ((n : Int) + 1)) (-1) _ (fun r hr => by obtain ⟨t, -, -, h⟩ := hrow r hr; rw [h]; exact (few_ge g beds hw t).1) hp (by rw [hq3]; exact hf)
  rw [hq3] at k2
  exact ⟨k1, k2⟩
/-- With d darts a score was reached from s. -/
def RelF (g : Int) (beds : List Int) (s : Nat) (d x : Int) : Prop := fewA g beds x.toNat ≠ -1 → fewA g beds s ≠ -1 ∧ fewA g beds s ≤ d + fewA g beds x.toNat
theorem RelF.begin (g : Int) (beds : List Int) (s : Nat) : RelF g beds s 0 s := fun h => by
  rw [Int.toNat_natCast] at h ⊢
  exact ⟨h, by omega⟩
theorem RelF.more {g : Int} {beds : List Int} {s : Nat} {d d' x : Int} (h : RelF g beds s d x) (hd : d ≤ d') : RelF g beds s d' x := fun h1 => by
  obtain ⟨h2, h3⟩ := h h1
  exact ⟨h2, by omega⟩
theorem RelF.step {g : Int} {beds : List Int} {s : Nat} {d x b : Int} (hw : ∀ x ∈ beds, 1 ≤ wrt x) (h : RelF g beds s d x) (hb : b ∈ beds) (ha : aftB g x b = true) (h0 : 0 < x) : RelF g beds s (d + 1) (x - wrt b) := fun h1 => by
  have h2 := aftW_le ha
  obtain ⟨n, rfl⟩ := Int.eq_ofNat_of_zero_le (Int.le_of_lt h0)
  obtain ⟨q, hq⟩ := Int.eq_ofNat_of_zero_le h2
  rw [hq, Int.toNat_natCast] at h1 ⊢
  obtain ⟨h3, h4⟩ := few_step hw hb ha (by omega) hq h1
  obtain ⟨h5, h6⟩ := h (by rw [Int.toNat_natCast]; exact h3)
  rw [Int.toNat_natCast] at h6
  exact ⟨h5, by omega⟩
theorem thrW_snoc {g b : Int} : ∀ (l : List Int) (i : Int) (x y : Thr), thrW 0 g l i x = .inl y → y.over = false → validB b = true → thrW 0 g (l ++ [b]) i x = .inl (y.hit 0 g b)
  | [], i, x, y, h, ho, hv => by
    rw [thrW] at h
    injection h with h
    subst h
    rw [List.nil_append, thrW, if_neg (by simp [ho]), if_neg (by simp [hv]), thrW]
  | a :: l, i, x, y, h, ho, hv => by
    rw [thrW] at h
    split at h
    · cases h
    · rename_i h1
      split at h
      · cases h
      · rename_i h2
        rw [List.cons_append, thrW, if_neg h1, if_neg h2]
        exact thrW_snoc l _ _ _ h ho hv
/-- A visit while it is thrown. -/
structure VstF (g : Int) (beds : List Int) (s : Nat) (d x0 : Int) (ds : List Int) (x : Thr) : Prop where
  run : thrW 0 g ds 0 ⟨x0, 0, 0, true, false, false⟩ = .inl x
  darts : x.darts = ds.length
  inn : x.inn = true
  won : x.won = false
  bust : x.bust = false
  len : ds.length < 3
  left : 1 ≤ x.left ∧ x.left ≤ x0
  rel0 : RelF g beds s d x0
  rel : RelF g beds s (d + ds.length) x.left
theorem VstF.nil {g : Int} {beds : List Int} {s : Nat} {d x0 : Int} (h : RelF g beds s d x0) (hx : 1 ≤ x0) : VstF g beds s d x0 [] ⟨x0, 0, 0, true, false, false⟩ :=
  ⟨rfl, rfl, rfl, rfl, rfl, by simp, ⟨hx, Int.le_refl _⟩, h, by simpa using h⟩
theorem VstF.over {g : Int} {beds : List Int} {s : Nat} {d x0 : Int} {ds : List Int} {x : Thr} (h : VstF g beds s d x0 ds x) : x.over = false := by
  unfold Thr.over
  have h1 := h.len
  rw [h.won, h.bust, h.darts]
  simp
  omega
/-- What a dart makes of a visit: it goes on, or the leg is won, or the visit is at its end. -/
theorem VstF.next {g : Int} {beds : List Int} {s : Nat} {d x0 b : Int} {ds : List Int} {x : Thr} (hbs : ∀ b ∈ beds, BedW g b) (h : VstF g beds s d x0 ds x) (hb : b = 0 ∨ b ∈ beds) :
    (thr 0 g true x0 (ds ++ [b]) = (.zero, -1, 31) ∧ ∃ y, VstF g beds s d x0 (ds ++ [b]) y) ∨
    (∃ sc, thr 0 g true x0 (ds ++ [b]) = (⟨0, sc, ((ds.length : Int) + 1), true, false, true⟩, -1, 0) ∧ RelF g beds s (d + ((ds.length : Int) + 1)) 0) ∨
    (∃ y sc bu, thr 0 g true x0 (ds ++ [b]) = (⟨y, sc, ((ds.length : Int) + 1), true, bu, false⟩, -1, 0) ∧ (1 ≤ y ∧ y ≤ x0) ∧ RelF g beds s (d + ((ds.length : Int) + 1)) y) := by
  have hw : ∀ x ∈ beds, 1 ≤ wrt x := fun x hx => (hbs x hx).wrt.1
  have hv : validB b = true := by
    rcases hb with rfl | hb
    · decide
    · exact (hbs b hb).valid
  have hr := thrW_snoc ds 0 _ _ h.run h.over hv
  have hlen := h.len
  have hlf := h.left
  have hdl : (ds ++ [b]).length = ds.length + 1 := by simp
  -- on: the visit goes on, or three darts are thrown
  have key : ∀ (y : Thr), x.hit 0 g b = y → y.darts = x.darts + 1 → y.inn = true → y.won = false → y.bust = false → (1 ≤ y.left ∧ y.left ≤ x0) → RelF g beds s (d + ((ds.length : Int) + 1)) y.left →
      (thr 0 g true x0 (ds ++ [b]) = (.zero, -1, 31) ∧ ∃ y, VstF g beds s d x0 (ds ++ [b]) y) ∨ (∃ z sc bu, thr 0 g true x0 (ds ++ [b]) = (⟨z, sc, ((ds.length : Int) + 1), true, bu, false⟩, -1, 0) ∧ (1 ≤ z ∧ z ≤ x0) ∧ RelF g beds s (d + ((ds.length : Int) + 1)) z) := by
    intro y hy hd hi hwn hbu hle hre
    have hd2 : y.darts = (ds.length : Int) + 1 := by rw [hd, h.darts]
    unfold thr
    rw [hr, hy]
    show (y.end true x0 = _ ∧ _) ∨ ∃ z sc bu, y.end true x0 = _ ∧ _
    by_cases h3 : ds.length + 1 < 3
    · left
      have ho : y.over = false := by
        unfold Thr.over
        rw [hwn, hbu, hd2]
        simp
        omega
      refine ⟨by unfold Thr.end; rw [if_pos ho], y, by rw [← hy]; exact hr, by rw [hd2, hdl]; push_cast; rfl, hi, hwn, hbu, by omega, hle, h.rel0, by rw [hdl]; push_cast; exact hre⟩
    · right
      have ho : y.over = true := by
        unfold Thr.over
        rw [hd2]
        have : ((ds.length : Int) + 1 == 3) = true := by simp; omega
        rw [this]
        rfl
      refine ⟨y.left, x0 - y.left, y.bust, ?_, hle, hre⟩
      unfold Thr.end
      rw [if_neg (by simp [ho]), if_neg (by simp [hbu]), hd2, hi, hwn]
  rcases hb with rfl | hb
  · have hy : x.hit 0 g 0 = { x with darts := x.darts + 1 } := by unfold Thr.hit; rw [if_pos (.inl rfl)]
    rcases key _ hy rfl h.inn h.won h.bust h.left (h.rel.more (by omega)) with h1 | h1
    · exact .inl h1
    · exact .inr (.inr h1)
  · have hB := hbs b hb
    have hne : (b == 0) = false := by simpa using hB.ne
    have hc1 : ¬ ((b == 0) = true ∨ x.inn = false ∧ opn4 0 b = false) := by simp [hne, h.inn]
    by_cases h2 : (x.left - wrt b == 0 && opn4 g b) = true
    · have hy : x.hit 0 g b = { x with darts := x.darts + 1, left := x.left - wrt b, inn := true, won := true, bust := false } := by unfold Thr.hit; rw [if_neg hc1, if_pos h2]
      simp only [Bool.and_eq_true, beq_iff_eq] at h2
      have ha : aftB g x.left b = true := by unfold aftB; rw [if_pos h2.1, ← hB.opens]; exact h2.2
      have hrel := h.rel.step hw hb ha (by omega)
      rw [h2.1] at hrel
      refine .inr (.inl ⟨x0 - 0, ?_, by rw [show d + ((ds.length : Int) + 1) = d + (ds.length : Int) + 1 by omega]; exact hrel⟩)
      unfold thr
      rw [hr, hy]
      show Thr.end true x0 _ = _
      unfold Thr.end
      rw [if_neg (by simp [Thr.over]), if_neg (by simp)]
      simp only [h2.1, h.darts]
    · by_cases h3 : (decide (x.left - wrt b < 2) && (x.left - wrt b != 1 || g != 0)) = true
      · have hy : x.hit 0 g b = { x with darts := x.darts + 1, won := false, bust := true } := by unfold Thr.hit; rw [if_neg hc1, if_neg h2, if_pos h3]
        refine .inr (.inr ⟨x0, 0, true, ?_, ⟨by omega, Int.le_refl _⟩, h.rel0.more (by omega)⟩)
        unfold thr
        rw [hr, hy]
        show Thr.end true x0 _ = _
        unfold Thr.end
        rw [if_neg (by simp [Thr.over]), if_pos rfl]
        simp only [h.darts]
      · have hy : x.hit 0 g b = { x with darts := x.darts + 1, left := x.left - wrt b, inn := true, won := false, bust := false } := by unfold Thr.hit; rw [if_neg hc1, if_neg h2, if_neg h3]
        simp only [Bool.and_eq_true, decide_eq_true_eq, Bool.or_eq_true, bne_iff_ne, ne_eq, not_and, not_or, Decidable.not_not] at h3
        have hwb := hB.wrt
        have ha : aftB g x.left b = true := by
          unfold aftB
          by_cases e0 : x.left - wrt b = 0
          · have := h3 (by omega)
            omega
          · rw [if_neg e0]
            by_cases e1 : x.left - wrt b = 1
            · rw [if_pos e1]
              simpa using (h3 (by omega)).2
            · rw [if_neg e1]
              simp only [decide_eq_true_eq]
              by_cases e2 : x.left - wrt b < 2
              · exact absurd (h3 e2).1 e1
              · omega
        have hle := aftW_le ha
        have hn0 : x.left - wrt b ≠ 0 := fun e => by have := h3 (by omega); omega
        have hrel := h.rel.step hw hb ha (by omega)
        rcases key _ hy rfl rfl rfl rfl ⟨by show 1 ≤ x.left - wrt b; omega, by show x.left - wrt b ≤ x0; omega⟩ (by rw [show d + ((ds.length : Int) + 1) = d + (ds.length : Int) + 1 by omega]; exact hrel) with h1 | h1
        · exact .inl h1
        · exact .inr (.inr h1)
theorem SoloG.on2 {s g x d j y sc k : Int} {bu : Bool} {gm : Gm} {b : List Int} (h : SoloG x d j gm) (hj : 0 ≤ j) (ht : Go.Proofs.Ytpifdeglhalefaa.thr 0 g true x b = (⟨y, sc, k, true, bu, false⟩, -1, 0)) : (gm.step (oneR s g) 0 b).2.2 = 0 ∧ SoloG y (d + k) (j + 1) (gm.step (oneR s g) 0 b).1 := by
  unfold Gm.step
  rw [h.chk, if_neg (by simp), h.thr, ht, if_neg (by simp)]
  refine ⟨rfl, ?_⟩
  have he : (gm.put (oneR s g) 0 ⟨y, sc, k, true, bu, false⟩).ended = fun _ => none := by
    simp [Gm.put, wonF, h.ended]
  have hr : (gm.put (oneR s g) 0 ⟨y, sc, k, true, bu, false⟩).round = j + 1 := by
    simp only [Gm.put, h.done, h.round]
    rfl
  have hf : (gm.put (oneR s g) 0 ⟨y, sc, k, true, bu, false⟩).fin (oneR s g) = gm.put (oneR s g) 0 ⟨y, sc, k, true, bu, false⟩ := by
    unfold Gm.fin endS
    have hh : hasF (oneR s g).counts.length (gm.put (oneR s g) 0 ⟨y, sc, k, true, bu, false⟩).ended = false := by rw [he]; simp [hasF]
    have hq : ((gm.put (oneR s g) 0 ⟨y, sc, k, true, bu, false⟩).round == (oneR s g).rounds) = false := by
      rw [hr]
      simp [oneR]
      omega
    rw [hh, hq, if_neg (by simp), if_neg (by simp)]
  show SoloG y (d + k) (j + 1) ((gm.put (oneR s g) 0 ⟨y, sc, k, true, bu, false⟩).fin (oneR s g))
  rw [hf]
  refine ⟨by simp [Gm.put, h.left], by simp [Gm.put, h.darts], by simp [Gm.put, h.inn], by simp [Gm.put, oneR], hr, h.over, h.winners, he, by simp only [Gm.put, h.done]; rfl⟩
theorem SoloG.short {s g x d j : Int} {gm : Gm} {b : List Int} (h : SoloG x d j gm) (ht : Go.Proofs.Ytpifdeglhalefaa.thr 0 g true x b = (.zero, -1, 31)) : (gm.step (oneR s g) 0 b).2.2 = 31 := by
  unfold Gm.step
  rw [h.chk, if_neg (by simp), h.thr, ht, if_pos (by simp)]
theorem playL_snoc (r : Rul) (v : LV) : ∀ (l : List LV) (g : Gm) (i : Int) (G : Gm), playL r g i l = (G, 0, 0) → playL r g i (l ++ [v]) = if (G.step r v.player v.beds).2.2 ≠ 0 then (Gm.zero, i + l.length, (G.step r v.player v.beds).2.2) else ((G.step r v.player v.beds).1, 0, 0)
  | [], g, i, G, h => by
    unfold playL at h
    injection h with h _
    subst h
    rw [List.nil_append]
    unfold playL
    split
    · simp
    · rfl
  | a :: l, g, i, G, h => by
    unfold playL at h
    split at h
    · rename_i h1
      simp only [Prod.mk.injEq] at h
      exact absurd h.2.2 h1
    · rename_i h1
      rw [List.cons_append]
      unfold playL
      rw [if_neg h1, playL_snoc r v l _ _ G h]
      simp only [List.length_cons]
      push_cast
      rw [show i + 1 + (l.length : Int) = i + ((l.length : Int) + 1) by omega]
/-- A leg while it goes on. -/
structure LegF (g : Int) (beds : List Int) (s : Nat) (L : List LV) (G : Gm) (x d j : Int) : Prop where
  solo : SoloG x d j G
  run : playS (oneR s g) L = (G, 0, 0)
  round : 0 ≤ j
  left : 1 ≤ x ∧ x ≤ s
  rel : RelF g beds s d x
theorem playS_run {s : Nat} {g : Int} (hs : 2 ≤ s ∧ s ≤ 1001) (hg : g = 0 ∨ g = 1 ∨ g = 2) {L : List LV} (hl : L.length ≤ 2000) : playS (oneR s g) L = playL (oneR s g) (.begin (oneR s g)) 0 L := by
  unfold playS
  rw [newE_one (by omega) hg (by omega), if_neg (by simp)]
theorem LegF.begin {g : Int} {beds : List Int} {s : Nat} (hs : 2 ≤ s ∧ s ≤ 1001) (hg : g = 0 ∨ g = 1 ∨ g = 2) : LegF g beds s [] (.begin (oneR s g)) s 0 0 :=
  ⟨SoloG.begin s g, by rw [playS_run hs hg (by simp)]; rfl, Int.le_refl _, ⟨by omega, Int.le_refl _⟩, RelF.begin g beds s⟩
/-- What holds of a leg at last. -/
structure EndF (g : Int) (beds : List Int) (s : Nat) (G : Gm) (y D : Int) : Prop where
  left : G.left = [y]
  darts : G.darts = [D]
  bnd : 0 ≤ y ∧ y ≤ s
  won : G.over = decide (y = 0)
  few : y = 0 → fewA g beds s ≠ -1 ∧ fewA g beds s ≤ D
  never : fewA g beds s = -1 → fewA g beds y.toNat = -1
theorem LegF.next {g : Int} {beds : List Int} {s : Nat} {L : List LV} {G : Gm} {x d j : Int} {ds : List Int} {t : Thr} {b : Int} (hs : 2 ≤ s ∧ s ≤ 1001) (hg : g = 0 ∨ g = 1 ∨ g = 2) (hbs : ∀ b ∈ beds, BedW g b) (h : LegF g beds s L G x d j) (hL : L.length ≤ 100) (hv : VstF g beds s d x ds t) (hb : b = 0 ∨ b ∈ beds) :
    (playS (oneR s g) (L ++ [⟨0, ds ++ [b]⟩]) = (Gm.zero, (L.length : Int), 31) ∧ ∃ t', VstF g beds s d x (ds ++ [b]) t') ∨
    ∃ G' y D, playS (oneR s g) (L ++ [⟨0, ds ++ [b]⟩]) = (G', 0, 0) ∧ EndF g beds s G' y D ∧ (G'.over = false → ∃ j', LegF g beds s (L ++ [⟨0, ds ++ [b]⟩]) G' y D j') := by
  have hpl := playL_snoc (oneR s g) ⟨0, ds ++ [b]⟩ L (.begin (oneR s g)) 0 G (by rw [← playS_run hs hg (by omega)]; exact h.run)
  rw [← playS_run hs hg (by simp; omega)] at hpl
  dsimp only at hpl
  rcases hv.next hbs hb with ⟨h1, h2⟩ | ⟨sc, h1, h2⟩ | ⟨y, sc, bu, h1, h2, h3⟩
  · left
    refine ⟨?_, h2⟩
    rw [hpl, if_pos (by rw [h.solo.short h1]; decide), h.solo.short h1]
    simp
  · right
    have hlen := hv.len
    obtain ⟨k1, k2⟩ := h.solo.win (s := s) (by omega) h1
    refine ⟨_, 0, _, by rw [hpl, if_neg (by simp [k1])], ⟨k2.left, k2.darts, by omega, by rw [k2.over]; rfl, fun _ => ?_, fun hn => ?_⟩, fun ho => by rw [k2.over] at ho; cases ho⟩
    · have e : fewA g beds (0 : Int).toNat = 0 := rfl
      obtain ⟨h3, h4⟩ := h2 (by rw [e]; decide)
      rw [e] at h4
      exact ⟨h3, by omega⟩
    · have e : fewA g beds (0 : Int).toNat = 0 := rfl
      exact absurd hn (h2 (by rw [e]; decide)).1
  · right
    obtain ⟨k1, k2⟩ := h.solo.on2 (s := s) h.round h1
    have hle := h.left
    refine ⟨_, y, _, by rw [hpl, if_neg (by simp [k1])], ⟨k2.left, k2.darts, by omega, by rw [k2.over, decide_eq_false (by omega)], fun e => by omega, fun hn => ?_⟩, fun _ => ⟨_, k2, by rw [hpl, if_neg (by simp [k1])], by have := h.round; omega, by omega, h3⟩⟩
    by_cases hc : fewA g beds y.toNat = -1
    · exact hc
    · exact absurd hn (h3 hc).1
/-- What cannot be ended leaves only what cannot be ended. -/
theorem few_closed {g : Int} {beds : List Int} (hw : ∀ x ∈ beds, 1 ≤ wrt x) {s : Nat} (hn : fewA g beds s = -1) : ∀ p ∈ thwO g beds s, ∃ q : Nat, q < s ∧ p.2 = q ∧ fewA g beds q = -1 := by
  intro p hp
  obtain ⟨x, hx, h1, h2, rfl⟩ := thwW_mem.1 hp
  have h3 := aftW_le h1
  have h4 := hw x hx
  obtain ⟨q, hq⟩ := Int.eq_ofNat_of_zero_le h3
  refine ⟨q, by omega, hq, ?_⟩
  by_cases hc : fewA g beds q = -1
  · exact hc
  · exact absurd hn (few_step hw hx h1 (by omega) hq hc).1
end Go.Proofs.Ytpifdeglhalefaa
namespace Go.Proofs.Ytpifdeglhalefaa
open Go.RowKit Go.BigFrame
attribute [local go_sem] Later.cell Later.frozen Lat.cell Lat.frozen
theorem OwnB.bols {w : World} {base : Nat} {a : Option Addr} {n c : Nat} {xs : List Bool} (h : OwnB w base (.slice a n c) xs) : BolsAt w a xs := fun i hi => by
  obtain ⟨a', c', e⟩ := own_shape h
  cases e
  obtain ⟨g, rfl, hc⟩ := own_cellsM h (by omega)
  exact ⟨g, 0, rfl, by simpa using hc i (.bool xs[i]) (by simp [hi])⟩
def nevL (l : List Int) : List Bool := l.map fun x => x == -1
theorem nev_getD (l : List Int) (i : Nat) (h : i < l.length) : (nevL l).getD i false = (l.getD i 0 == -1) := by
  unfold nevL
  rw [List.getD_eq_getElem?_getD, List.getD_eq_getElem?_getD, List.getElem?_map, List.getElem?_eq_getElem h]
  rfl
theorem few_nev {g : Int} {beds : List Int} (hw : ∀ x ∈ beds, 1 ≤ wrt x) (s : Nat) : (nevL (fewO g beds s)).getD 0 false = false ∧ ∀ i : Nat, (nevL (fewO g beds s)).getD i false = true → ∀ p ∈ thwO g beds i, (nevL (fewO g beds s)).getD p.2.toNat false = true := by
  have hl := fewO_len g beds s
  constructor
  · rw [nev_getD _ _ (by omega), few_at s (Nat.zero_le _)]
    rfl
  · intro i hi p hp
    have his : i ≤ s := by
      by_cases h : i < (fewO g beds s).length
      · omega
      · rw [List.getD_eq_getElem?_getD, List.getElem?_eq_none (by unfold nevL; rw [List.length_map]; omega)] at hi
        cases hi
    rw [nev_getD _ _ (by omega), few_at s his] at hi
    obtain ⟨q, h1, h2, h3⟩ := few_closed hw (by simpa using hi) p hp
    rw [h2, Int.toNat_natCast, nev_getD _ _ (by omega), few_at s (by omega), h3]
    rfl
set_option maxRecDepth 100000 in
set_option maxHeartbeats 8000000 in
theorem fewest_rest (c : Code) (hcd : codeFrom 21 (Try.f4.body.getD .skip) = some c) (w w0 : World) (g : Int) (bl : List Int) (s y : Nat) (D : Int) (ov : Bool) (ba : Option Addr) (bc kc K10 lb lo lc db dk dc : Nat) (v2 n1 n2 v6 : Value) {s0 s1 s2 s3 s4 s5 s6 s9 s11 s12 s13 s14 s15 s16 s17 s18 s19 s20 s21 s22 s23 s24 s25 s26 s27 s28 s29 s30 s31 s32 s33 s34 s35 s36 s37 s38 s39 s40 s41 s42 s43 s44 s45 s46 s47 s48 s49 s50 s51 s52 s53 s54 s55 s56 s57 s58 s59 s60 s61 s62 s63 s64 s65 s66 s67 s68 s69 s70 s71 s72 s73 s74 s75 s76 s77 s78 s79 s80 s81 s82 s83 s84 s85 s86 s87 s88 s89 s90 s91 s92 s93 s94 s95 s96 s97 s98 s99 s100 s101 s102 s103 s104 s105 s106 s107 s108 s109 s110 s111 s112 s113 s114 s115 s116 s117 s118 s119 s120 s121 s122 s123 s124 s125 s126 s127 s128 s129 s130 s131 s132 s133 s134 s135 s136 s137 s138 s139 s140 s141 s142 s143 s144 s145 s146 s147 s148 s149 s150 s151 s152 s153 s154 s155 s156 s157 s158 s159 s160 s161 s162 s163 s164 s165 s166 s167 s168 s169 s170 s171 s172 s173 s174 s175 s176 s177 s178 s179 s180 s181 s182 s183 s184 s185 s186 s187 s188 s189 s190 s191 s192 s193 s194 s195 s196 s197 s198 s199 s200 s201 s202 s203 s204 s205 s206 s207 s208 s209 s210 s211 s212 s213 s214 s215 s216 s217 s218 s219 s220 s221 s222 s223 s224 s225 s226 s227 s228 s229 : Value}
    (HX : Hid (Ext w w0)) (HRL : Hid (∀ darts : Int, 1 ≤ darts ∧ darts ≤ 9 → rulO bl g darts = true)) (hs : 2 ≤ s ∧ s ≤ 1001) (HB : Hid (CellsAt w0 .i64 ba bl)) (HC : Hid (Blk w0 kc #[.int .i64 s, .int .i64 0, .int .i64 g])) (HS : Hid (Blk w0 K10 #[.slice (some ⟨lb, lo, none⟩) 1 lc, .slice (some ⟨db, dk, none⟩) 1 dc, v2, n1, n2, .bool ov, v6]))
    (HY : Hid (w0.cell? ⟨lb, lo, none⟩ = some (.int .i64 y))) (HD : Hid (w0.cell? ⟨db, dk, none⟩ = some (.int .i64 D))) (hy : y ≤ s) (HOV : Hid (ov = decide ((y : Int) = 0))) (HFW : Hid ((y : Int) = 0 → fewA g bl s ≠ -1 ∧ fewA g bl s ≤ D)) (HNE : Hid (fewA g bl s = -1 → fewA g bl y = -1)) :
    c.wp Try.prog (bodyPost Try.prog Try.f4 fun e w' => e = .returned (.bool true) ∧ Ext w w') { tmps := #[s0, s1, s2, s3, s4, s5, s6, .slice ba bl.length bc, .pointer (some ⟨kc, 0, none⟩), s9, .pointer (some ⟨K10, 0, none⟩), s11, s12, s13, s14, s15, s16, s17, s18, s19, s20, s21, s22, s23, s24, s25, s26, s27, s28, s29, s30, s31, s32, s33, s34, s35, s36, s37, s38, s39, s40, s41, s42, s43, s44, s45, s46, s47, s48, s49, s50, s51, s52, s53, s54, s55, s56, s57, s58, s59, s60, s61, s62, s63, s64, s65, s66, s67, s68, s69, s70, s71, s72, s73, s74, s75, s76, s77, s78, s79, s80, s81, s82, s83, s84, s85, s86, s87, s88, s89, s90, s91, s92, s93, s94, s95, s96, s97, s98, s99, s100, s101, s102, s103, s104, s105, s106, s107, s108, s109, s110, s111, s112, s113, s114, s115, s116, s117, s118, s119, s120, s121, s122, s123, s124, s125, s126, s127, s128, s129, s130, s131, s132, s133, s134, s135, s136, s137, s138, s139, s140, s141, s142, s143, s144, s145, s146, s147, s148, s149, s150, s151, s152, s153, s154, s155, s156, s157, s158, s159, s160, s161, s162, s163, s164, s165, s166, s167, s168, s169, s170, s171, s172, s173, s174, s175, s176, s177, s178, s179, s180, s181, s182, s183, s184, s185, s186, s187, s188, s189, s190, s191, s192, s193, s194, s195, s196, s197, s198, s199, s200, s201, s202, s203, s204, s205, s206, s207, s208, s209, s210, s211, s212, s213, s214, s215, s216, s217, s218, s219, s220, s221, s222, s223, s224, s225, s226, s227, s228, s229], defers := [] } w0 := by
  simp only [Try.f4, Option.getD_some, codeFrom, ↓reduceIte, Nat.reduceEqDiff, Option.some.injEq] at hcd
  subst hcd
  dsimp only
  obtain ⟨hs2, hs3⟩ := hs
  have hw := (fun x hx => ((rul_wrt (HRL.out 1 (by omega))).2 x hx).2.1 : ∀ x ∈ bl, 1 ≤ wrt x)
  have HCN := Lib.hid (few_nev (g := g) hw s)
  have HGE := Lib.hid (few_ge g bl hw)
  have HLN := Lib.hid (fewO_len g bl s)
  have HFS0 : Hid ((fewO g bl s).getD s 0 = fewA g bl s) := Lib.hid (few_at s (Nat.le_refl _))
  have HFY0 : Hid ((fewO g bl s).getD y 0 = fewA g bl y) := Lib.hid (few_at s hy)
  obtain ⟨fs, hfs⟩ : ∃ z, fewA g bl s = z := ⟨_, rfl⟩
  obtain ⟨fy, hfy⟩ : ∃ z, fewA g bl y = z := ⟨_, rfl⟩
  have HGS := Lib.hid (HGE.out s)
  have HGY := Lib.hid (HGE.out y)
  rw [hfs] at HFS0 HFW HNE HGS
  rw [hfy] at HFY0 HNE HGY
  have HNV := HNE
  have hy0 : y = 0 → fy = 0 := by
    rintro rfl
    rw [← hfy]
    rfl
  have HFW1 := Lib.hid (out_Fewest bl ba bc g 3 s w0 HB.out (HRL.out 3 (by omega)) hs3)
  obtain ⟨fl, hfl⟩ : ∃ z, fewO g bl s = z := ⟨_, rfl⟩
  rw [hfl] at HFW1 HCN HLN HFS0 HFY0
  have HFS : Hid (∀ h : s < fl.length, fl[s] = fs) := Lib.hid (fun h => by rw [← HFS0.out, List.getD_eq_getElem?_getD, List.getElem?_eq_getElem h]; rfl)
  have HFY : Hid (∀ h : y < fl.length, fl[y] = fy) := Lib.hid (fun h => by rw [← HFY0.out, List.getD_eq_getElem?_getD, List.getElem?_eq_getElem h]; rfl)
  clear hw hfl hfs hfy HNE HFS0 HFY0 HGE
  have k0 := HC.out.cell 0 (v := .int .i64 s) rfl
  have k2 := HC.out.cell 2 (v := .int .i64 g) rfl
  have kl := HC.out.lt
  go_wp2_with fail
  refine HFW1.out.mono ?_
  rintro e w1 ⟨v, rfl, ho, hx1⟩
  obtain ⟨fa, fc, rfl, hfc⟩ := ho.cells
  have HXa := Lib.hid hx1
  have HF := Lib.hid hfc
  obtain ⟨n, hn⟩ : ∃ z, fl.length = z := ⟨_, rfl⟩
  rw [hn]
  have HN := Lib.hid hn
  have hns : (n : Int) = (s : Int) + 1 := by have := HLN.out; omega
  have hnS : n = s + 1 := by have := HLN.out; omega
  have HNS := Lib.hid hnS
  have hn2 : n ≤ 1002 := by omega
  clear k0 k2 kl ho hx1 hfc hn HFW1 hnS
  have k0 := (HC.out.ext HXa.out).cell 0 (v := .int .i64 s) rfl
  have k2 := (HC.out.ext HXa.out).cell 2 (v := .int .i64 g) rfl
  have kl := (HC.out.ext HXa.out).lt
  have t0 := (HS.out.ext HXa.out).cell 0 (v := .slice (some ⟨lb, lo, none⟩) 1 lc) rfl
  have t1 := (HS.out.ext HXa.out).cell 1 (v := .slice (some ⟨db, dk, none⟩) 1 dc) rfl
  have t5 := (HS.out.ext HXa.out).cell 5 (v := .bool ov) rfl
  have tl := (HS.out.ext HXa.out).lt
  have hnd : (((n : Int)) == (s : Int) + 1) = true := by simpa using hns
  go_upto_region 24 with fail
  clear k0 k2 kl t0 t1 t5 tl hnd hns
  have HNV0 := Lib.hid (show OwnB (w1.alloc (.cells #[] 4)) w1.heap.size (.slice (some ⟨w1.heap.size, 0, none⟩) 0 0) ((nevL fl).take 0) from own_empty rfl (Nat.le_refl _))
  have HX0 := Lib.hid ((Ext.refl w1).alloc (.cells #[] 4))
  have HNL : Hid ((nevL fl).length = n) := Lib.hid (by unfold nevL; rw [List.length_map, HN.out])
  go_upto_region 26 with fail
  go_loopw [21, 22] (fun lv iv wr => ∃ k : Nat, iv = .int .i64 (k : Nat) ∧ k ≤ n ∧ OwnB wr w1.heap.size lv ((nevL fl).take k) ∧ Ext w1 wr) (fun _ iv _ => n - (intOf iv).toNat)
  case atStart => exact ⟨0, rfl, by omega, HNV0.out, HX0.out⟩
  case round =>
    rename_i lv iv
    obtain ⟨k, rfl, hk, ho, hx⟩ := hrel
    obtain ⟨w4, rfl⟩ : ∃ y, y = wr := ⟨_, rfl⟩
    clear HNV0 HX0
    have HO := Lib.hid ho
    have HX4 := Lib.hid hx
    have HTL : Hid (((nevL fl).take k).length = k) := Lib.hid (by rw [List.length_take, HNL.out]; omega)
    obtain ⟨oa, oc, e⟩ := own_shape ho
    rw [HTL.out] at e
    subst e
    clear ho hx
    by_cases hlt : k < n
    · have hlt' : (k : Int) < (n : Int) := by omega
      have hkl : k < fl.length := by rw [HN.out]; exact hlt
      obtain ⟨fb, fo, rfl, f0⟩ := HF.out k hkl
      have HTK : Hid ((nevL fl).take (k + 1) = (nevL fl).take k ++ [fl[k] == -1]) := Lib.hid (by
        rw [List.take_succ_eq_append_getElem (by rw [HNL.out]; exact hlt)]
        unfold nevL
        rw [List.getElem_map])
      obtain ⟨x, hx⟩ : ∃ y, fl[k] = y := ⟨_, rfl⟩
      rw [hx] at f0 HTK
      have f0 := HX4.out.cell f0
      have f0l := lt_of_cell f0
      simp only at f0l
      obtain ⟨bx, hbx⟩ : ∃ y, (x == -1) = y := ⟨_, rfl⟩
      rw [hbx] at HTK
      have HO4 := Lib.hid (own_chg HO.out (((Ext.refl w4).alloc (.cells #[.bool bx] 4)).chg fun _ => False) (fun _ _ => id))
      have HSZ := Lib.hid HX4.out.size
      clear hx hkl
      go_wp2_with (at_builtin; refine wp_append_bo rfl _ _ rfl w1.heap.size (.slice oa k oc) ((nevL fl).take k) rfl HO4.out ⟨w4.heap.size, 0, none⟩ 1 bx rfl (Blk.cell (Blk.new _ _ _) 0 rfl) (by rw [HTL.out]; omega) (by have := HSZ.out; simp; omega) ?_)
      intro v6 w6 hO6 hg6
      have HX6 := Lib.hid (Chg.to_ext (HX4.out.trans ((Ext.refl w4).alloc _)) (grown_chg hg6) (fun q hq => (World.ownsRow.lt HO4.out q hq).1))
      have HO6 : Hid (OwnB w6 w1.heap.size v6 ((nevL fl).take (k + 1))) := Lib.hid (by rw [HTK.out]; exact hO6)
      clear hO6 hg6 HO4 f0 f0l hbx
      go_wp2
      go_roundw
      case rel => exact ⟨k + 1, by go_num, by omega, HO6.out, HX6.out⟩
      case measure => simp [intOf]; omega
    · obtain rfl : k = n := by omega
      have HOk : Hid (OwnB w4 w1.heap.size (.slice oa k oc) (nevL fl)) := Lib.hid (by
        have h := HO.out
        rw [List.take_of_length_le (by rw [HNL.out]; exact Nat.le_refl _)] at h
        exact h)
      have HXb := Lib.hid (HXa.out.trans HX4.out)
      clear HO
      have HCL := Lib.hid (out_Closed bl ba bc g 1 (nevL fl) oa k oc w4 (HB.out.ext HXb.out) (HRL.out 1 (by omega)) HNL.out (by omega) HOk.out.bols HCN.out.1 HCN.out.2)
      have HXa := HXb
      have k0 := (HC.out.ext HXa.out).cell 0 (v := .int .i64 s) rfl
      have k2 := (HC.out.ext HXa.out).cell 2 (v := .int .i64 g) rfl
      have kl := (HC.out.ext HXa.out).lt
      go_wp2_with fail
      refine HCL.out.mono ?_
      rintro e w5 ⟨rfl, hx5⟩
      have HXa := Lib.hid (HXb.out.trans hx5)
      have HF5 : Hid (CellsAt w5 .i64 fa fl) := Lib.hid ((HF.out.ext HX4.out).ext hx5)
      obtain ⟨fb, fo, rfl, f00⟩ := HF5.out 0 (by rw [HN.out]; have := HNS.out; omega)
      have HF6 : Hid (∀ (i : Nat) (h : i < fl.length), w5.cell? ⟨fb, fo + i, none⟩ = some (.int .i64 fl[i])) := Lib.hid (fun i h => by
        obtain ⟨b', o', e', h'⟩ := HF5.out i h
        cases e'
        exact h')
      clear hx5 k0 k2 kl HCL HOk f00 HF5 HX4
      have k0 := (HC.out.ext HXa.out).cell 0 (v := .int .i64 s) rfl
      have k2 := (HC.out.ext HXa.out).cell 2 (v := .int .i64 g) rfl
      have kl := (HC.out.ext HXa.out).lt
      have t0 := (HS.out.ext HXa.out).cell 0 (v := .slice (some ⟨lb, lo, none⟩) 1 lc) rfl
      have t1 := (HS.out.ext HXa.out).cell 1 (v := .slice (some ⟨db, dk, none⟩) 1 dc) rfl
      have t5 := (HS.out.ext HXa.out).cell 5 (v := .bool ov) rfl
      have tl := (HS.out.ext HXa.out).lt
      have y0 := HXa.out.cell HY.out
      have d0 := HXa.out.cell HD.out
      have yl := lt_of_cell y0
      have dl := lt_of_cell d0
      simp only at yl dl
      have f0 := HF6.out s (by rw [HN.out]; have := HNS.out; omega)
      have f1 := HF6.out y (by rw [HN.out]; have := HNS.out; omega)
      rw [HFS.out] at f0
      rw [HFY.out] at f1
      have fl0 := lt_of_cell f0
      have fl1 := lt_of_cell f1
      simp only at fl0 fl1
      have hsk : (s : Int) < (k : Int) := by have := HNS.out; omega
      have hyk : (y : Int) < (k : Int) := by have := HNS.out; omega
      by_cases hy1 : y = 0
      · have hov : ov = true := by rw [HOV.out, hy1]; rfl
        have hfw := HFW.out (by omega)
        have hgs := HGS.out
        have h1 : decide (fs < 1) = false := by simp; omega
        have h2 : decide (D < fs) = false := by simp; omega
        have h3 := hy0 hy1
        subst hy1
        subst h3
        subst hov
        simp only [Nat.add_zero] at f1
        go_upto_region 30 with fail
        refine wp_region_later (by kernel_rfl) (by kernel_rfl) ?_
        repeat (go_big_quiet_step (fail))
        refine wpQuiet_nil ?_
        intro w7 hw7
        obtain ⟨⟨w7, hx7⟩, rfl⟩ := hw7
        clear k0 k2 kl t0 t1 t5 tl y0 d0 yl dl f0 f1 fl0 fl1 h1 h2 hgs
        have HX7 := Lib.hid (HXa.out.trans hx7)
        have k0 := (HC.out.ext HX7.out).cell 0 (v := .int .i64 s) rfl
        have kl := (HC.out.ext HX7.out).lt
        have t0 := (HS.out.ext HX7.out).cell 0 (v := .slice (some ⟨lb, lo, none⟩) 1 lc) rfl
        have tl := (HS.out.ext HX7.out).lt
        have y0 := HX7.out.cell HY.out
        have yl := lt_of_cell y0
        have f0 := hx7.cell (HF6.out s (by rw [HLN.out]; omega))
        have f1 := hx7.cell (HF6.out 0 (by rw [HLN.out]; omega))
        have fl0 := lt_of_cell f0
        have fl1 := lt_of_cell f1
        simp only at yl fl0 fl1
        rw [HFS.out] at f0
        rw [HFY.out] at f1
        try simp only [Nat.add_zero] at f1
        clear hx7
        have hfs' : (fs == -1) = false := by simpa using hfw.1
        have HP1 := Lib.hid pub_Out
        have HP2 := Lib.hid pub_Leg
        go_wp2_with fail
        refine (HP1.out _).mono ?_
        rintro e w8 ⟨rfl, hx8⟩
        go_wp2_with fail
        refine (HP2.out _).mono ?_
        rintro e w9 ⟨rfl, hx9⟩
        have HX9 := Lib.hid (((HX.out.trans HX7.out).trans hx8).trans hx9)
        clear hx8 hx9
        go_wp2
        go_ret
        exact ⟨rfl, HX9.out⟩
      · have hov : ov = false := by rw [HOV.out, decide_eq_false (by omega)]
        have hyz : ((y : Int) == 0) = false := by simp; omega
        subst hov
        obtain ⟨b3, hb3⟩ : ∃ z, decide (fy < 0) = z := ⟨_, rfl⟩
        go_upto_region 30 with fail
        refine wp_region_later (by kernel_rfl) (by kernel_rfl) ?_
        cases b3
        · repeat (go_big_quiet_step (fail))
          refine wpQuiet_nil ?_
          intro w7 hw7
          obtain ⟨⟨w7, hx7⟩, rfl⟩ := hw7
          clear k0 k2 kl t0 t1 t5 tl y0 d0 yl dl f0 f1 fl0 fl1 hyz
          have HX7 := Lib.hid (HXa.out.trans hx7)
          have k0 := (HC.out.ext HX7.out).cell 0 (v := .int .i64 s) rfl
          have kl := (HC.out.ext HX7.out).lt
          have t0 := (HS.out.ext HX7.out).cell 0 (v := .slice (some ⟨lb, lo, none⟩) 1 lc) rfl
          have tl := (HS.out.ext HX7.out).lt
          have y0 := HX7.out.cell HY.out
          have yl := lt_of_cell y0
          have f0 := hx7.cell (HF6.out s (by rw [HLN.out]; omega))
          have f1 := hx7.cell (HF6.out y (by rw [HLN.out]; omega))
          have fl0 := lt_of_cell f0
          have fl1 := lt_of_cell f1
          simp only at yl fl0 fl1
          rw [HFS.out] at f0
          rw [HFY.out] at f1
          try simp only [Nat.add_zero] at f1
          clear hx7
          by_cases hfs : fs = -1
          · have hfy : fy = -1 := HNV.out hfs
            subst hfs
            subst hfy
            have HP1 := Lib.hid pub_Out
            have HP2 := Lib.hid pub_Leg
            go_wp2_with fail
            refine (HP1.out _).mono ?_
            rintro e w8 ⟨rfl, hx8⟩
            go_wp2_with fail
            refine (HP2.out _).mono ?_
            rintro e w9 ⟨rfl, hx9⟩
            have HX9 := Lib.hid (((HX.out.trans HX7.out).trans hx8).trans hx9)
            clear hx8 hx9
            go_wp2
            go_ret
            exact ⟨rfl, HX9.out⟩
          · have hfs' : (fs == -1) = false := by simpa using hfs
            have HP1 := Lib.hid pub_Out
            have HP2 := Lib.hid pub_Leg
            go_wp2_with fail
            refine (HP1.out _).mono ?_
            rintro e w8 ⟨rfl, hx8⟩
            go_wp2_with fail
            refine (HP2.out _).mono ?_
            rintro e w9 ⟨rfl, hx9⟩
            have HX9 := Lib.hid (((HX.out.trans HX7.out).trans hx8).trans hx9)
            clear hx8 hx9
            go_wp2
            go_ret
            exact ⟨rfl, HX9.out⟩
        · repeat (go_big_quiet_step (fail))
          refine wpQuiet_nil ?_
          intro w7 hw7
          obtain ⟨⟨w7, hx7⟩, rfl⟩ := hw7
          clear k0 k2 kl t0 t1 t5 tl y0 d0 yl dl f0 f1 fl0 fl1 hyz
          have HX7 := Lib.hid (HXa.out.trans hx7)
          have k0 := (HC.out.ext HX7.out).cell 0 (v := .int .i64 s) rfl
          have kl := (HC.out.ext HX7.out).lt
          have t0 := (HS.out.ext HX7.out).cell 0 (v := .slice (some ⟨lb, lo, none⟩) 1 lc) rfl
          have tl := (HS.out.ext HX7.out).lt
          have y0 := HX7.out.cell HY.out
          have yl := lt_of_cell y0
          have f0 := hx7.cell (HF6.out s (by rw [HLN.out]; omega))
          have f1 := hx7.cell (HF6.out y (by rw [HLN.out]; omega))
          have fl0 := lt_of_cell f0
          have fl1 := lt_of_cell f1
          simp only at yl fl0 fl1
          rw [HFS.out] at f0
          rw [HFY.out] at f1
          try simp only [Nat.add_zero] at f1
          clear hx7
          by_cases hfs : fs = -1
          · have hfy : fy = -1 := HNV.out hfs
            subst hfs
            subst hfy
            have HP1 := Lib.hid pub_Out
            have HP2 := Lib.hid pub_Leg
            go_wp2_with fail
            refine (HP1.out _).mono ?_
            rintro e w8 ⟨rfl, hx8⟩
            go_wp2_with fail
            refine (HP2.out _).mono ?_
            rintro e w9 ⟨rfl, hx9⟩
            have HX9 := Lib.hid (((HX.out.trans HX7.out).trans hx8).trans hx9)
            clear hx8 hx9
            go_wp2
            go_ret
            exact ⟨rfl, HX9.out⟩
          · have hfs' : (fs == -1) = false := by simpa using hfs
            have HP1 := Lib.hid pub_Out
            have HP2 := Lib.hid pub_Leg
            go_wp2_with fail
            refine (HP1.out _).mono ?_
            rintro e w8 ⟨rfl, hx8⟩
            go_wp2_with fail
            refine (HP2.out _).mono ?_
            rintro e w9 ⟨rfl, hx9⟩
            have HX9 := Lib.hid (((HX.out.trans HX7.out).trans hx8).trans hx9)
            clear hx8 hx9
            go_wp2
            go_ret
            exact ⟨rfl, HX9.out⟩
end Go.Proofs.Ytpifdeglhalefaa
