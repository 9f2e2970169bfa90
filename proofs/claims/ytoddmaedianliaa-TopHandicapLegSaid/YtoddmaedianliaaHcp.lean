/-
  A leg in which both sides throw nothing but the single 1: who wins. No walk here.
-/
import Derived.Test.YtoddmaedianliaaPla
namespace Go.Proofs.Ytoddmaedianliaa
def hcR (a b f : Int) : Rul := ⟨[⟨a, 0, 0⟩, ⟨b, 0, 0⟩], f, 0, false⟩
def ones (n : Nat) : List Int := List.replicate n 101
theorem hcR_ok {a b f : Int} (ha : 2 ≤ a ∧ a ≤ 1001) (hb : 2 ≤ b ∧ b ≤ 1001) (hf : f = 0 ∨ f = 1) : (hcR a b f).ok = true := by
  unfold Rul.ok hcR
  have h1 : cntB a 0 0 = true := by simp only [cntB, Bool.and_eq_true, ins_one]; omega
  have h2 : cntB b 0 0 = true := by simp only [cntB, Bool.and_eq_true, ins_one]; omega
  simp only [List.length_cons, List.length_nil, List.any_cons, List.any_nil, Cnt.ok, h1, h2, Bool.and_eq_true, ins_one]
  refine ⟨⟨⟨by omega, rfl⟩, ?_⟩, by omega⟩
  rcases hf with rfl | rfl <;> decide
theorem hit_on {x : Thr} (hl : 1 < x.left) : x.hit 0 0 101 = { x with darts := x.darts + 1, left := x.left - 1, inn := true, won := false, bust := false } := by
  have hw : wrt 101 = 1 := by decide
  have ho : opn4 0 101 = true := by decide
  unfold Thr.hit
  rw [hw, ho]
  rw [if_neg (by simp), if_neg (by simp; omega), if_neg (by simp; omega)]
theorem hit_win {x : Thr} (hl : x.left = 1) : x.hit 0 0 101 = { x with darts := x.darts + 1, left := 0, inn := true, won := true, bust := false } := by
  have hw : wrt 101 = 1 := by decide
  have ho : opn4 0 101 = true := by decide
  unfold Thr.hit
  rw [hw, ho, hl]
  rw [if_neg (by simp), if_pos (by simp)]
  rfl
theorem thr_ones (x : Int) (h : 0 < x) : thr 0 0 true x (ones (min 3 x).toNat) = (⟨x - min 3 x, min 3 x, min 3 x, true, false, decide (x ≤ 3)⟩, -1, 0) := by
  rcases (by omega : x = 1 ∨ x = 2 ∨ x = 3 ∨ 3 < x) with rfl | rfl | rfl | h3
  · decide
  · decide
  · decide
  · have hm : min 3 x = 3 := by omega
    rw [hm]
    have hv : validB 101 = true := by decide
    show thrE true x (thrW 0 0 [101, 101, 101] 0 ⟨x, 0, 0, true, false, false⟩) = _
    unfold thrW
    rw [if_neg (by simp [Thr.over]), if_neg (by rw [hv]; decide), hit_on (by show 1 < x; omega)]
    unfold thrW
    rw [if_neg (by simp [Thr.over]), if_neg (by rw [hv]; decide), hit_on (by show 1 < x - 1; omega)]
    unfold thrW
    rw [if_neg (by simp [Thr.over]), if_neg (by rw [hv]; decide), hit_on (by show 1 < x - 1 - 1; omega)]
    unfold thrW
    simp only [thrE, Thr.end, Thr.over]
    rw [if_neg (by simp), if_neg (by simp)]
    refine Prod.ext ?_ rfl
    simp only [Thr.mk.injEq]
    refine ⟨by omega, by omega, by omega, trivial, trivial, ?_⟩
    simp; omega
theorem playL_snoc (r : Rul) (v : LV) : ∀ (l : List LV) (g : Gm) (i : Int) (g' : Gm), playL r g i l = (g', 0, 0) → (g'.step r v.player v.beds).2.2 = 0 → playL r g i (l ++ [v]) = ((g'.step r v.player v.beds).1, 0, 0)
  | [], g, i, g', h, hs => by
    simp only [playL, Prod.mk.injEq] at h
    obtain ⟨rfl, _⟩ := h
    show playL r g i [v] = _
    unfold playL
    rw [if_neg (by simp [hs])]
    rfl
  | u :: l, g, i, g', h, hs => by
    show playL r g i (u :: (l ++ [v])) = _
    unfold playL at h ⊢
    split at h
    · rename_i h1
      simp only [Prod.mk.injEq] at h
      exact absurd h.2.2 h1
    · rename_i h1
      rw [if_neg h1]
      exact playL_snoc r v l _ _ g' h hs
/-- While the leg goes on, and at its end. -/
structure HcG (f x0 x1 p : Int) (g : Gm) : Prop where
  left : g.left = [x0, x1]
  inn : g.inn = [true, true]
  darts : g.darts.length = 2
  round : 0 ≤ g.round
  done : g.done = 0 ∨ g.done = 1
  on : 0 < x0 → 0 < x1 → g.over = false ∧ g.next = p ∧ g.ended = fun _ => none
  off0 : x0 = 0 → g.over = true ∧ g.winners = [0]
  off1 : x1 = 0 → g.over = true ∧ g.winners = [1]
def HcI (a b f : Int) (l : List LV) (x0 x1 p : Int) : Prop :=
  (∃ g, playL (hcR a b f) (.begin (hcR a b f)) 0 l = (g, 0, 0) ∧ HcG f x0 x1 p g) ∧
  ∃ n0 n1 : Int, x0 = max 0 (a - 3 * n0) ∧ x1 = max 0 (b - 3 * n1) ∧ -2 ≤ a - 3 * n0 ∧ -2 ≤ b - 3 * n1 ∧ 0 ≤ n0 ∧ 0 ≤ n1 ∧ (0 < x0 ∨ 0 < x1) ∧ ((p = f ∧ n0 = n1) ∨ (p = 1 - f ∧ ((f = 0 ∧ n0 = n1 + 1) ∨ (f = 1 ∧ n1 = n0 + 1)))) ∧ (l.length : Int) = n0 + n1
theorem HcI.start {a b f : Int} (ha : 2 ≤ a) (hb : 2 ≤ b) : HcI a b f [] a b f := by
  refine ⟨⟨.begin (hcR a b f), rfl, rfl, rfl, rfl, Int.le_refl _, .inl rfl, fun _ _ => ⟨rfl, rfl, rfl⟩, fun h => by omega, fun h => by omega⟩, 0, 0, by omega, by omega, by omega, by omega, by omega, by omega, by omega, .inl ⟨rfl, rfl⟩, rfl⟩
theorem fin_on {r : Rul} {g : Gm} (hn : g.ended = fun _ => none) (hr : g.done = 0 → g.round ≠ r.rounds) : g.fin r = g := by
  unfold Gm.fin endS
  have hh : hasF r.counts.length g.ended = false := by rw [hn]; simp [hasF]
  rw [hh, if_neg (by simp), if_neg (by simp; exact hr)]
theorem winS_of {n i : Nat} {c : Int} (hi : i < n) (hc : c ≤ 1002) : winS n (updF (fun _ => none) (i : Int) c) = [(i : Int)] := by
  have hf : ∀ x : Int, updF (fun _ => none) (i : Int) c x = if x = (i : Int) then some c else none := fun x => rfl
  have hl : leastF n (updF (fun _ => none) (i : Int) c) = c := by
    obtain ⟨h1, h2, h3⟩ := leastF_le (n := n) (f := updF (fun _ => none) (i : Int) c)
    have h4 := h2 i hi c (by rw [hf, if_pos rfl])
    rcases h3 with h3 | ⟨j, hj, h3⟩
    · omega
    · rw [hf] at h3
      split at h3
      · exact (Option.some.inj h3).symm
      · cases h3
  unfold winS
  rw [hl]
  have key : ∀ m, m ≤ n → ((List.range m).map fun (p : Nat) => (p : Int)).filter (fun p => updF (fun _ => none) (i : Int) c p == some c) = if i < m then [(i : Int)] else [] := by
    intro m
    induction m with
    | zero => intro _; rfl
    | succ m ih =>
      intro hm
      rw [List.range_succ, List.map_append, List.filter_append, ih (by omega)]
      by_cases e : m = i
      · subst e
        simp [hf]
      · have e' : ¬ ((m : Int) = (i : Int)) := by omega
        by_cases h1 : i < m
        · simp [hf, e', h1, show i < m + 1 by omega]
        · simp [hf, e', h1, show ¬ i < m + 1 by omega]
  rw [key n (Nat.le_refl _), if_pos hi]
/- -- STEPS -/
theorem HcG.step0 {a b f x0 x1 : Int} {g : Gm} (h : HcG f x0 x1 0 g) (h0 : 0 < x0) (h1 : 0 < x1) :
    (g.step (hcR a b f) 0 (ones (min 3 x0).toNat)).2.2 = 0 ∧ HcG f (x0 - min 3 x0) x1 1 (g.step (hcR a b f) 0 (ones (min 3 x0).toNat)).1 := by
  obtain ⟨hov, hnx, hen⟩ := h.on h0 h1
  have hc : chkS (hcR a b f).counts.length g.next g.over 0 = 0 := by
    unfold chkS; rw [hov, hnx]; rfl
  have ht : g.thr (hcR a b f) ((0 : Int).toNat) (ones (min 3 x0).toNat) = (⟨x0 - min 3 x0, min 3 x0, min 3 x0, true, false, decide (x0 ≤ 3)⟩, -1, 0) := by
    unfold Gm.thr
    rw [h.inn, h.left]
    exact thr_ones x0 h0
  unfold Gm.step
  rw [hc, if_neg (by simp), ht, if_neg (by simp)]
  refine ⟨rfl, ?_⟩
  have hw : (x0 ≤ 3 ∧ decide (x0 ≤ 3) = true ∧ x0 - min 3 x0 = 0) ∨ (3 < x0 ∧ decide (x0 ≤ 3) = false ∧ x0 - min 3 x0 = x0 - 3) := by
    rcases (by omega : x0 ≤ 3 ∨ 3 < x0) with h3 | h3
    · exact .inl ⟨h3, by simp; omega, by omega⟩
    · exact .inr ⟨h3, by simp; omega, by omega⟩
  have hdd : g.darts.length = 2 := h.darts
  show HcG f (x0 - min 3 x0) x1 1 ((g.put (hcR a b f) 0 ⟨x0 - min 3 x0, min 3 x0, min 3 x0, true, false, decide (x0 ≤ 3)⟩).fin (hcR a b f))
  rcases hw with ⟨h3, hd, hz⟩ | ⟨h3, hd, hz⟩
  · have hf : (g.put (hcR a b f) 0 ⟨x0 - min 3 x0, min 3 x0, min 3 x0, true, false, decide (x0 ≤ 3)⟩).fin (hcR a b f) = { (g.put (hcR a b f) 0 ⟨x0 - min 3 x0, min 3 x0, min 3 x0, true, false, decide (x0 ≤ 3)⟩) with next := -1, over := true, winners := [0] } := by
      have he : (g.put (hcR a b f) 0 ⟨x0 - min 3 x0, min 3 x0, min 3 x0, true, false, decide (x0 ≤ 3)⟩).ended = updF (fun _ => none) ((0 : Nat) : Int) (min 3 x0) := by
        simp only [Gm.put, wonF, hd, if_true, hen]
      unfold Gm.fin endS
      rw [he]
      have hh : hasF (hcR a b f).counts.length (updF (fun _ => none) ((0 : Nat) : Int) (min 3 x0)) = true := by
        simp [hasF, hcR, updF, List.range_succ]
      rw [hh, if_pos ⟨rfl, .inr rfl⟩]
      simp only
      rw [winS_of (n := (hcR a b f).counts.length) (i := 0) (by show 0 < 2; decide) (by omega), ← he]
      rfl
    rw [hf]
    refine ⟨by simp [Gm.put, h.left], by simp [Gm.put, h.inn], by simp [Gm.put, hdd], ?_, ?_, fun q0 q1 => by omega, fun q => ?_, fun q => ?_⟩
    · have := h.round
      simp only [Gm.put]
      split <;> omega
    · have := h.done
      simp only [Gm.put]
      split
      · exact .inl rfl
      · rename_i h4
        have : (hcR a b f).counts.length = 2 := rfl
        omega
    · first | exact ⟨rfl, rfl⟩ | omega
    · first | exact ⟨rfl, rfl⟩ | omega
  · have hf : (g.put (hcR a b f) 0 ⟨x0 - min 3 x0, min 3 x0, min 3 x0, true, false, decide (x0 ≤ 3)⟩).fin (hcR a b f) = g.put (hcR a b f) 0 ⟨x0 - min 3 x0, min 3 x0, min 3 x0, true, false, decide (x0 ≤ 3)⟩ := by
      refine fin_on (by simp only [Gm.put, wonF, hd, hen]; rfl) ?_
      have := h.round
      have h2 : (hcR a b f).counts.length = 2 := rfl
      have h4 : (hcR a b f).rounds = 0 := rfl
      have h5 := h.done
      simp only [Gm.put, h2, h4]
      split <;> intro h6 <;> omega
    rw [hf]
    refine ⟨by simp [Gm.put, h.left], by simp [Gm.put, h.inn], by simp [Gm.put, hdd], ?_, ?_, fun q0 q1 => ⟨hov, (by show (((0 : Nat) : Int) + 1) % ((2 : Nat) : Int) = 1; decide), by simp only [Gm.put, wonF, hd, hen]; rfl⟩, fun q => by omega, fun q => by omega⟩
    · have := h.round
      simp only [Gm.put]
      split <;> omega
    · have := h.done
      simp only [Gm.put]
      split
      · exact .inl rfl
      · rename_i h4
        have : (hcR a b f).counts.length = 2 := rfl
        omega
theorem HcI.step0 {a b f x0 x1 : Int} {l : List LV} (h : HcI a b f l x0 x1 0) (hf : f = 0 ∨ f = 1) (h0 : 0 < x0) (h1 : 0 < x1) : HcI a b f (l ++ [⟨0, ones (min 3 x0).toNat⟩]) (x0 - min 3 x0) x1 1 := by
  obtain ⟨⟨g, hp, hg⟩, n0, n1, e0, e1, b0, b1, c0, c1, hor, hn, hl⟩ := h
  obtain ⟨hs, hg'⟩ := hg.step0 (a := a) (b := b) h0 h1
  refine ⟨⟨_, playL_snoc _ ⟨0, ones (min 3 x0).toNat⟩ _ _ _ g hp hs, hg'⟩, n0 + 1, n1, by omega, by omega, by omega, by omega, by omega, by omega, by omega, ?_, by simp; omega⟩
  rcases hf with rfl | rfl <;> omega
theorem HcG.step1 {a b f x0 x1 : Int} {g : Gm} (h : HcG f x0 x1 1 g) (h0 : 0 < x0) (h1 : 0 < x1) :
    (g.step (hcR a b f) 1 (ones (min 3 x1).toNat)).2.2 = 0 ∧ HcG f x0 (x1 - min 3 x1) 0 (g.step (hcR a b f) 1 (ones (min 3 x1).toNat)).1 := by
  obtain ⟨hov, hnx, hen⟩ := h.on h0 h1
  have hc : chkS (hcR a b f).counts.length g.next g.over 1 = 0 := by
    unfold chkS; rw [hov, hnx]; rfl
  have ht : g.thr (hcR a b f) ((1 : Int).toNat) (ones (min 3 x1).toNat) = (⟨x1 - min 3 x1, min 3 x1, min 3 x1, true, false, decide (x1 ≤ 3)⟩, -1, 0) := by
    unfold Gm.thr
    rw [h.inn, h.left]
    exact thr_ones x1 h1
  unfold Gm.step
  rw [hc, if_neg (by simp), ht, if_neg (by simp)]
  refine ⟨rfl, ?_⟩
  have hw : (x1 ≤ 3 ∧ decide (x1 ≤ 3) = true ∧ x1 - min 3 x1 = 0) ∨ (3 < x1 ∧ decide (x1 ≤ 3) = false ∧ x1 - min 3 x1 = x1 - 3) := by
    rcases (by omega : x1 ≤ 3 ∨ 3 < x1) with h3 | h3
    · exact .inl ⟨h3, by simp; omega, by omega⟩
    · exact .inr ⟨h3, by simp; omega, by omega⟩
  have hdd : g.darts.length = 2 := h.darts
  show HcG f x0 (x1 - min 3 x1) 0 ((g.put (hcR a b f) 1 ⟨x1 - min 3 x1, min 3 x1, min 3 x1, true, false, decide (x1 ≤ 3)⟩).fin (hcR a b f))
  rcases hw with ⟨h3, hd, hz⟩ | ⟨h3, hd, hz⟩
  · have hf : (g.put (hcR a b f) 1 ⟨x1 - min 3 x1, min 3 x1, min 3 x1, true, false, decide (x1 ≤ 3)⟩).fin (hcR a b f) = { (g.put (hcR a b f) 1 ⟨x1 - min 3 x1, min 3 x1, min 3 x1, true, false, decide (x1 ≤ 3)⟩) with next := -1, over := true, winners := [1] } := by
      have he : (g.put (hcR a b f) 1 ⟨x1 - min 3 x1, min 3 x1, min 3 x1, true, false, decide (x1 ≤ 3)⟩).ended = updF (fun _ => none) ((1 : Nat) : Int) (min 3 x1) := by
        simp only [Gm.put, wonF, hd, if_true, hen]
      unfold Gm.fin endS
      rw [he]
      have hh : hasF (hcR a b f).counts.length (updF (fun _ => none) ((1 : Nat) : Int) (min 3 x1)) = true := by
        simp [hasF, hcR, updF, List.range_succ]
      rw [hh, if_pos ⟨rfl, .inr rfl⟩]
      simp only
      rw [winS_of (n := (hcR a b f).counts.length) (i := 1) (by show 1 < 2; decide) (by omega), ← he]
      rfl
    rw [hf]
    refine ⟨by simp [Gm.put, h.left], by simp [Gm.put, h.inn], by simp [Gm.put, hdd], ?_, ?_, fun q0 q1 => by omega, fun q => ?_, fun q => ?_⟩
    · have := h.round
      simp only [Gm.put]
      split <;> omega
    · have := h.done
      simp only [Gm.put]
      split
      · exact .inl rfl
      · rename_i h4
        have : (hcR a b f).counts.length = 2 := rfl
        omega
    · first | exact ⟨rfl, rfl⟩ | omega
    · first | exact ⟨rfl, rfl⟩ | omega
  · have hf : (g.put (hcR a b f) 1 ⟨x1 - min 3 x1, min 3 x1, min 3 x1, true, false, decide (x1 ≤ 3)⟩).fin (hcR a b f) = g.put (hcR a b f) 1 ⟨x1 - min 3 x1, min 3 x1, min 3 x1, true, false, decide (x1 ≤ 3)⟩ := by
      refine fin_on (by simp only [Gm.put, wonF, hd, hen]; rfl) ?_
      have := h.round
      have h2 : (hcR a b f).counts.length = 2 := rfl
      have h4 : (hcR a b f).rounds = 0 := rfl
      have h5 := h.done
      simp only [Gm.put, h2, h4]
      split <;> intro h6 <;> omega
    rw [hf]
    refine ⟨by simp [Gm.put, h.left], by simp [Gm.put, h.inn], by simp [Gm.put, hdd], ?_, ?_, fun q0 q1 => ⟨hov, (by show (((1 : Nat) : Int) + 1) % ((2 : Nat) : Int) = 0; decide), by simp only [Gm.put, wonF, hd, hen]; rfl⟩, fun q => by omega, fun q => by omega⟩
    · have := h.round
      simp only [Gm.put]
      split <;> omega
    · have := h.done
      simp only [Gm.put]
      split
      · exact .inl rfl
      · rename_i h4
        have : (hcR a b f).counts.length = 2 := rfl
        omega
theorem HcI.step1 {a b f x0 x1 : Int} {l : List LV} (h : HcI a b f l x0 x1 1) (hf : f = 0 ∨ f = 1) (h0 : 0 < x0) (h1 : 0 < x1) : HcI a b f (l ++ [⟨1, ones (min 3 x1).toNat⟩]) x0 (x1 - min 3 x1) 0 := by
  obtain ⟨⟨g, hp, hg⟩, n0, n1, e0, e1, b0, b1, c0, c1, hor, hn, hl⟩ := h
  obtain ⟨hs, hg'⟩ := hg.step1 (a := a) (b := b) h0 h1
  refine ⟨⟨_, playL_snoc _ ⟨1, ones (min 3 x1).toNat⟩ _ _ _ g hp hs, hg'⟩, n0, n1 + 1, by omega, by omega, by omega, by omega, by omega, by omega, by omega, ?_, by simp; omega⟩
  rcases hf with rfl | rfl <;> omega
/-- Who has won. -/
theorem HcI.end {a b f x0 x1 p : Int} {l : List LV} (h : HcI a b f l x0 x1 p) (hf : f = 0 ∨ f = 1) (ho : ¬ (0 < x0 ∧ 0 < x1)) :
    ∃ g, playL (hcR a b f) (.begin (hcR a b f)) 0 l = (g, 0, 0) ∧ g.over = true ∧ g.winners = [if (if f = 0 then (b + 2) / 3 else (a + 2) / 3) < (if f = 0 then (a + 2) / 3 else (b + 2) / 3) then 1 - f else f] := by
  obtain ⟨⟨g, hp, hg⟩, n0, n1, e0, e1, b0, b1, c0, c1, hor, hn, hl⟩ := h
  rcases (by omega : (x0 = 0 ∧ 0 < x1) ∨ (x1 = 0 ∧ 0 < x0)) with ⟨z, q⟩ | ⟨z, q⟩
  · obtain ⟨w1, w2⟩ := hg.off0 z
    refine ⟨g, hp, w1, ?_⟩
    rw [w2]
    rcases hf with rfl | rfl
    · simp only [if_true]; rw [if_neg (by omega)]
    · simp only [show ¬ ((1 : Int) = 0) by decide, if_false]; rw [if_pos (by omega)]; rfl
  · obtain ⟨w1, w2⟩ := hg.off1 z
    refine ⟨g, hp, w1, ?_⟩
    rw [w2]
    rcases hf with rfl | rfl
    · simp only [if_true]; rw [if_pos (by omega)]; rfl
    · simp only [show ¬ ((1 : Int) = 0) by decide, if_false]; rw [if_neg (by omega)]
theorem HcI.length {a b f x0 x1 p : Int} {l : List LV} (h : HcI a b f l x0 x1 p) (ha : a ≤ 1001) (hb : b ≤ 1001) : l.length ≤ 700 := by
  obtain ⟨_, n0, n1, e0, e1, b0, b1, c0, c1, hor, hn, hl⟩ := h
  omega
end Go.Proofs.Ytoddmaedianliaa
