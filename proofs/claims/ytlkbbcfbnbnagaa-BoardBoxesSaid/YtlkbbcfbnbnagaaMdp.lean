/-
  Plain: the board that bytes make is valid.
-/
import Derived.Test.YtlkbbcfbnbnagaaLbe
namespace Go.Proofs.Ytlkbbcfbnbnagaa
def cmpAt (i : Nat) : Pt := ptAt compassL (i % 24)
theorem cmp_good : (List.range 24).all (fun i => !badP (cmpAt i)) = true := by decide +kernel
theorem cmp_link : (List.range 24).all (fun s => (List.range 8).all fun g => partP (cmpAt s) (cmpAt (s + (g + 1))) == 1) = true := by decide +kernel
theorem cmp_bef : (List.range 24).all (fun s => (List.range 24).all fun q => (List.range q).all fun p => befP (cmpAt s) (cmpAt (s + p)) (cmpAt (s + q))) = true := by decide +kernel
theorem cmpAt_mod (i : Nat) : cmpAt (i % 24) = cmpAt i := by unfold cmpAt; rw [Nat.mod_mod]
theorem cmpAt_add (i j : Nat) : cmpAt (i % 24 + j) = cmpAt (i + j) := by unfold cmpAt; rw [Nat.mod_add_mod]
theorem cmp_link' (s g : Nat) (h0 : 0 < g) (h1 : g ≤ 8) : (partP (cmpAt s) (cmpAt (s + g)) == 1) = true := by
  have h := List.all_eq_true.1 (List.all_eq_true.1 cmp_link (s % 24) (List.mem_range.2 (Nat.mod_lt _ (by decide)))) (g - 1) (List.mem_range.2 (by omega))
  rw [cmpAt_mod, cmpAt_add, show s + (g - 1 + 1) = s + g by omega] at h
  exact h
theorem cmp_bef' (s p q : Nat) (h0 : p < q) (h1 : q < 24) : befP (cmpAt s) (cmpAt (s + p)) (cmpAt (s + q)) = true := by
  have h := List.all_eq_true.1 (List.all_eq_true.1 (List.all_eq_true.1 cmp_bef (s % 24) (List.mem_range.2 (Nat.mod_lt _ (by decide)))) q (List.mem_range.2 h1)) p (List.mem_range.2 h0)
  rw [cmpAt_mod, cmpAt_add, cmpAt_add] at h
  exact h
theorem cmp_good' (s : Nat) : badP (cmpAt s) = false := by
  have h := List.all_eq_true.1 cmp_good (s % 24) (List.mem_range.2 (Nat.mod_lt _ (by decide)))
  rw [cmpAt_mod] at h
  simpa using h
section
variable (x : Mad)
def st0 : Nat := x.first.toNat % 24
theorem ptM_cmp (n : Nat) : ptM x n = cmpAt (st0 x + posM x n) := rfl
theorem stepM_pos (i : Nat) : 1 ≤ stepM x i ∧ stepM x i ≤ 8 := by unfold stepM; split <;> omega
theorem posM_succ (i : Nat) : posM x i < posM x (i + 1) ∧ posM x (i + 1) ≤ posM x i + 8 := by
  have := stepM_pos x i
  show posM x i < posM x i + stepM x i ∧ posM x i + stepM x i ≤ _
  omega
theorem posM_ge : ∀ i, i ≤ posM x i
  | 0 => Nat.zero_le _
  | i + 1 => by have := posM_ge i; have := (posM_succ x i).1; omega
theorem posM_lt {i j : Nat} (h : i < j) : posM x i < posM x j := by
  induction j with
  | zero => omega
  | succ j ih =>
    rcases Nat.lt_or_ge i j with h1 | h1
    · exact Nat.lt_trans (ih h1) (posM_succ x j).1
    · obtain rfl : i = j := by omega
      exact (posM_succ x i).1
theorem lnTo_spec : ∀ (f i : Nat), (∀ j, j < i → posM x j < 24) → i ≤ lnTo x f i ∧ lnTo x f i ≤ i + f ∧ (∀ j, j < lnTo x f i → posM x j < 24) ∧ (lnTo x f i = i + f ∨ 24 ≤ posM x (lnTo x f i))
  | 0, i, h => ⟨Nat.le_refl _, Nat.le_refl _, h, .inl rfl⟩
  | f + 1, i, h => by
    by_cases hp : posM x i < 24
    · rw [lnTo_step x f i hp]
      obtain ⟨h1, h2, h3, h4⟩ := lnTo_spec f (i + 1) (fun j hj => by
        rcases Nat.lt_or_ge j i with h' | h'
        · exact h j h'
        · obtain rfl : j = i := by omega
          exact hp)
      exact ⟨by omega, by omega, h3, h4.imp (by omega) id⟩
    · rw [lnTo_stop x (f + 1) i hp]
      exact ⟨Nat.le_refl _, by omega, h, .inr (by omega)⟩
theorem lnM_spec : 3 ≤ lnM x ∧ lnM x ≤ 20 ∧ (∀ j, j < lnM x → posM x j < 24) ∧ 24 ≤ posM x (lnM x - 1) + 8 := by
  obtain ⟨-, h2, h3, h4⟩ := lnTo_spec x 20 0 (fun j hj => by omega)
  unfold lnM
  generalize lnTo x 20 0 = n at *
  have h8 := posM_le x n
  rcases h4 with h4 | h4
  · obtain rfl : n = 20 := by omega
    have := posM_ge x 19
    exact ⟨by omega, by omega, h3, by show 24 ≤ posM x 19 + 8; omega⟩
  · obtain ⟨m, rfl⟩ : ∃ m, n = m + 1 := ⟨n - 1, by omega⟩
    have := (posM_succ x m).2
    exact ⟨by omega, by omega, h3, by rw [Nat.add_sub_cancel]; omega⟩
theorem linesM_at {n i : Nat} (h : i < n) : ptAt (linesM x n) i = ptM x i := by
  unfold ptAt linesM
  rw [List.getD_eq_getElem?_getD, List.getElem?_map, List.getElem?_range h]
  rfl
theorem made_lines : linesB (linesM x (lnM x)) = true := by
  obtain ⟨h3, h20, hlt, hend⟩ := lnM_spec x
  generalize lnM x = n at *
  unfold linesB
  rw [linesM_len, Bool.and_eq_true, Bool.and_eq_true, decide_eq_true_eq, Bool.not_eq_true', List.any_eq_false, List.all_eq_true]
  refine ⟨h3, fun p hp => ?_, fun i hi => ?_⟩
  · unfold linesM at hp
    obtain ⟨i, -, rfl⟩ := List.mem_map.1 hp
    rw [ptM_cmp, cmp_good']
    simp
  · have hi := List.mem_range.1 hi
    unfold linkB
    rw [linesM_len]
    rcases Nat.lt_or_ge (i + 1) n with h1 | h1
    · rw [Nat.mod_eq_of_lt h1, linesM_at x hi, linesM_at x h1, linesM_at x (by omega), ptM_cmp, ptM_cmp, ptM_cmp]
      have hs := posM_succ x i
      have hq := hlt (i + 1) h1
      have e1 := cmp_link' (st0 x + posM x i) (posM x (i + 1) - posM x i) (by omega) (by omega)
      rw [show st0 x + posM x i + (posM x (i + 1) - posM x i) = st0 x + posM x (i + 1) by omega] at e1
      have e2 := cmp_bef' (st0 x) (posM x i) (posM x (i + 1)) hs.1 hq
      have e3 : cmpAt (st0 x + posM x 0) = cmpAt (st0 x) := rfl
      rw [e1, e3, e2]
      simp
    · have hin : i + 1 = n := by omega
      rw [hin, Nat.mod_self, linesM_at x hi, linesM_at x (by omega : 0 < n), ptM_cmp, ptM_cmp]
      have hp := hlt i hi
      have e : n - 1 = i := by omega
      rw [e] at hend
      have e1 := cmp_link' (st0 x + posM x i) (24 - posM x i) (by omega) (by omega)
      have e2 : cmpAt (st0 x + posM x i + (24 - posM x i)) = cmpAt (st0 x + posM x 0) := by
        unfold cmpAt
        rw [show st0 x + posM x i + (24 - posM x i) = st0 x + 24 by omega, Nat.add_mod_right]
        rfl
      rw [e2] at e1
      rw [e1]
      simp
theorem numM_range (n : Nat) : ∀ y ∈ numsM x n, 1 ≤ y ∧ y ≤ 20 := by
  intro y hy
  unfold numsM at hy
  obtain ⟨i, -, rfl⟩ := List.mem_map.1 hy
  unfold numM
  omega
theorem numM_inj {i j : Nat} (hi : i < 20) (hj : j < 20) (h : numM x i = numM x j) : i = j := by
  unfold numM at h
  omega
theorem numsM_nodup {n : Nat} (h : n ≤ 20) : (numsM x n).Nodup := by
  unfold numsM
  refine List.pairwise_map.2 ((List.nodup_range (n := n)).imp_of_mem fun {a b} ha hb hab e => hab ?_)
  have := List.mem_range.1 ha
  have := List.mem_range.1 hb
  exact numM_inj x (by omega) (by omega) e
theorem made_nums : numsB (madeB x) = true := by
  obtain ⟨h3, h20, -, -⟩ := lnM_spec x
  unfold numsB numsTo madeB
  simp only [numsM_len, linesM_len, decide_true, Bool.and_true, Bool.and_eq_true, List.all_eq_true, decide_eq_true_eq]
  exact ⟨fun y hy => ins_one.2 (numM_range x _ y hy), numsM_nodup x h20⟩
theorem made_rad (hf : x.fits) : ∀ (k j : Nat), j + k ≤ 5 → radB (x.wire % 4) (lastM x j) ((List.range' j k).map fun i => lastM x (i + 1)) = true
  | 0, j, _ => rfl
  | k + 1, j, h => by
    rw [List.range'_succ, List.map_cons]
    unfold radB
    have h1 := (lastM_small hf (j + 1)).2
    have h2 := (byAt_small hf.r j).1
    have hs : lastM x (j + 1) = lastM x j + (2 * (x.wire % 4) + 1 + byAt x.rings j) := rfl
    rw [Bool.and_eq_true]
    exact ⟨ins_one.2 (by omega), made_rad hf k (j + 1) (by omega)⟩
theorem made_rings (hf : x.fits) : ringsB (madeB x) = true := by
  have hr : 0 < rnM x ∧ rnM x ≤ 5 := by unfold rnM; split <;> omega
  have hw := hf.w
  have hfi := hf.f
  unfold ringsB
  have e1 : (madeB x).rings = rgsM x (rnM x) := rfl
  have e2 : (madeB x).wire = x.wire % 4 := rfl
  have e3 : (madeB x).radii = eyeM x :: bullM x :: (rgsM x (rnM x)).map (·.outer) := rfl
  rw [e1, e2, e3, Bool.and_eq_true, Bool.and_eq_true, Bool.and_eq_true, Bool.not_eq_true', Bool.not_eq_true', List.any_eq_false]
  refine ⟨?_, ins_one.2 (by omega), fun r hm => ?_, ?_⟩
  · cases hq : rgsM x (rnM x) with
    | nil => have := rgsM_len x (rnM x); rw [hq] at this; simp at this; omega
    | cons a l => rfl
  · unfold rgsM at hm
    obtain ⟨i, -, rfl⟩ := List.mem_map.1 hm
    have hb := byAt_small hf.r i
    have : ins 0 4 [(ringM x i).factor] = true := ins_one.2 (by show 0 ≤ byAt x.rings i % 5 ∧ byAt x.rings i % 5 ≤ 4; omega)
    rw [this]; simp
  · unfold radB radB
    have e4 : (rgsM x (rnM x)).map (·.outer) = (List.range' 0 (rnM x)).map fun i => lastM x (i + 1) := by unfold rgsM; rw [List.map_map, ← List.range_eq_range']; rfl
    rw [e4, Bool.and_eq_true, Bool.and_eq_true]
    exact ⟨ins_one.2 (by unfold eyeM; omega), ins_one.2 (by unfold bullM eyeM; omega), made_rad x hf (rnM x) 0 (by omega)⟩
theorem made_small : SmallB (madeB x) := by
  obtain ⟨h3, h20, -, -⟩ := lnM_spec x
  have hr : rnM x ≤ 5 := by unfold rnM; split <;> omega
  exact ⟨by show (rgsM x _).length ≤ _; rw [rgsM_len]; omega, by show (linesM x _).length ≤ _; rw [linesM_len]; omega, by show (numsM x _).length ≤ _; rw [numsM_len]; omega⟩
theorem made_ok (hf : x.fits) : errB (madeB x) = 0 := by
  obtain ⟨h3, h20, -, -⟩ := lnM_spec x
  have hr : rnM x ≤ 5 := by unfold rnM; split <;> omega
  have hl : longB (madeB x) = false := by
    unfold longB
    have e1 : (madeB x).rings.length = rnM x := rgsM_len x _
    have e2 : (madeB x).lines.length = lnM x := linesM_len x _
    have e3 : (madeB x).nums.length = lnM x := numsM_len x _
    rw [e1, e2, e3]
    simp; omega
  have hg : goodB (madeB x) = true := by
    unfold goodB
    rw [made_rings x hf, made_nums x]
    rw [Bool.true_and, Bool.and_true]
    exact made_lines x
  unfold errB
  rw [hl, hg]
  rfl
end
end Go.Proofs.Ytlkbbcfbnbnagaa
