/-
  Plain: wear as the reference adds it, and all lists of turns as numbers.
-/
import Derived.Test.YtlkbbcfbnbnagaaGreatBoV
namespace Go.Proofs.YtlkbbcfbnbnagaaGreat
theorem turnL_at (xs : List Int) (k s : Nat) (hk : k < xs.length) (hs : s < xs.length) : (turnL xs k)[s]? = xs[(s + xs.length - k) % xs.length]? := by
  unfold turnL
  rcases Nat.lt_or_ge s k with h | h
  · rw [List.getElem?_append_left (by rw [List.length_drop]; omega), List.getElem?_drop, Nat.mod_eq_of_lt (by omega)]
    congr 1; omega
  · rw [List.getElem?_append_right (by rw [List.length_drop]; omega), List.length_drop, List.getElem?_take_of_lt (by omega)]
    have e : (s + xs.length - k) % xs.length = s - k := by
      rw [show s + xs.length - k = (s - k) + xs.length by omega, Nat.add_mod_right, Nat.mod_eq_of_lt (by omega)]
    rw [e]
    congr 1; omega
/-- The wear after the first j sectors of a week are added, each k farther. -/
def wearN (worn week : List Int) (k : Nat) : Nat → List Int
  | 0 => worn
  | j + 1 => (wearN worn week k j).set ((j + k) % worn.length) ((wearN worn week k j).getD ((j + k) % worn.length) 0 + week.getD j 0)
theorem wearN_len (worn week : List Int) (k : Nat) : ∀ j, (wearN worn week k j).length = worn.length
  | 0 => rfl
  | j + 1 => by rw [wearN, List.length_set]; exact wearN_len worn week k j
theorem mod_back {n k s j : Nat} (hk : k < n) (hs : s < n) (hj : j < n) : (j + k) % n = s ↔ (s + n - k) % n = j := by
  have e1 : (j + k) % n = if j + k < n then j + k else j + k - n := by
    split
    · exact Nat.mod_eq_of_lt (by assumption)
    · rw [Nat.mod_eq_sub_mod (by omega), Nat.mod_eq_of_lt (by omega)]
  have e2 : (s + n - k) % n = if s < k then s + n - k else s - k := by
    split
    · exact Nat.mod_eq_of_lt (by omega)
    · rw [show s + n - k = (s - k) + n by omega, Nat.add_mod_right, Nat.mod_eq_of_lt (by omega)]
  rw [e1, e2]
  split <;> split <;> omega
theorem wearN_get (worn week : List Int) (k : Nat) (hl : week.length = worn.length) (hk : k < worn.length) : ∀ j, j ≤ worn.length → ∀ s, s < worn.length →
    (wearN worn week k j).getD s 0 = worn.getD s 0 + if (s + worn.length - k) % worn.length < j then week.getD ((s + worn.length - k) % worn.length) 0 else 0
  | 0, _, s, hs => by simp [wearN]
  | j + 1, hj, s, hs => by
    have ih := wearN_get worn week k hl hk j (by omega) s hs
    rw [wearN, List.getD_eq_getElem?_getD, List.getElem?_set]
    have hb := mod_back (n := worn.length) (k := k) (s := s) (j := j) hk hs (by omega)
    by_cases e : (j + k) % worn.length = s
    · have e2 := hb.1 e
      rw [e2, if_neg (by omega)] at ih
      rw [if_pos e, if_pos (by rw [wearN_len, e]; exact hs), e2, if_pos (by omega), e, ih]
      simp
    · have e2 : ¬ (s + worn.length - k) % worn.length = j := fun h => e (hb.2 h)
      rw [if_neg e, ← List.getD_eq_getElem?_getD, ih]
      congr 1
      by_cases h : (s + worn.length - k) % worn.length < j
      · rw [if_pos h, if_pos (by omega)]
      · rw [if_neg h, if_neg (by omega)]
theorem wearN_all (worn week : List Int) (k : Nat) (hl : week.length = worn.length) (hk : k < worn.length) : wearN worn week k worn.length = afterL worn week k := by
  apply List.ext_getElem?
  intro s
  rcases Nat.lt_or_ge s worn.length with hs | hs
  · have h1 := wearN_get worn week k hl hk worn.length (Nat.le_refl _) s hs
    rw [if_pos (Nat.mod_lt _ (by omega))] at h1
    have h2 : (wearN worn week k worn.length)[s]? = some ((wearN worn week k worn.length).getD s 0) := by
      rw [List.getD_eq_getElem?_getD, List.getElem?_eq_getElem (by rw [wearN_len]; exact hs)]; rfl
    rw [h2, h1]
    unfold afterL addL
    rw [List.getElem?_zipWith, turnL_at week k s (by omega) (by omega), hl, List.getElem?_eq_getElem hs]
    have hq : (s + worn.length - k) % worn.length < week.length := by rw [hl]; exact Nat.mod_lt _ (by omega)
    rw [List.getElem?_eq_getElem hq, List.getD_eq_getElem?_getD, List.getElem?_eq_getElem hs, List.getD_eq_getElem?_getD, List.getElem?_eq_getElem hq]
    rfl
  · rw [List.getElem?_eq_none (by rw [wearN_len]; exact hs), List.getElem?_eq_none (by rw [afterL_len worn week k hl (by omega)]; exact hs)]
theorem getD_lt {l : List Int} {i : Nat} (h : i < l.length) : l.getD i 0 = l[i] := by
  rw [List.getD_eq_getElem?_getD, List.getElem?_eq_getElem h]; rfl
theorem wearN_set (worn week : List Int) (k j : Nat) (h0 : 0 < worn.length) (hj : j < week.length) : ∃ (h1 : (j + k) % worn.length < (wearN worn week k j).length), wearN worn week k (j + 1) = (wearN worn week k j).set ((j + k) % worn.length) ((wearN worn week k j)[(j + k) % worn.length] + week[j]) := by
  have h1 : (j + k) % worn.length < (wearN worn week k j).length := by rw [wearN_len]; exact Nat.mod_lt _ h0
  refine ⟨h1, ?_⟩
  rw [wearN, getD_lt h1, getD_lt hj]
/-- The digits of a number, m of them to the base n, the greatest one first. -/
def digs (n : Nat) : Nat → Nat → List Int
  | 0, _ => []
  | m + 1, x => ((x / n ^ m % n : Nat) : Int) :: digs n m x
theorem digs_len (n : Nat) : ∀ m x, (digs n m x).length = m
  | 0, _ => rfl
  | m + 1, x => by rw [digs, List.length_cons, digs_len n m x]
theorem digs_add (n : Nat) (hn : 0 < n) : ∀ m x c, digs n m (x + c * n ^ m) = digs n m x
  | 0, _, _ => rfl
  | m + 1, x, c => by
    have e : c * n ^ (m + 1) = (c * n) * n ^ m := by rw [Nat.pow_succ, Nat.mul_assoc, Nat.mul_comm (n ^ m) n]
    rw [digs, digs, e, digs_add n hn m x (c * n), Nat.add_mul_div_right _ _ (Nat.pow_pos hn), Nat.add_mul_mod_self_right]
theorem digs_lt (n : Nat) (hn : 0 < n) : ∀ m x, ∀ d ∈ digs n m x, 0 ≤ d ∧ d < n
  | 0, _, d, h => by simp [digs] at h
  | m + 1, x, d, h => by
    rw [digs] at h
    rcases List.mem_cons.1 h with rfl | h
    · have := Nat.mod_lt (x / n ^ m) hn; omega
    · exact digs_lt n hn m x d h
/-- The wear after some weeks, each turned. -/
def runW : List (List Int) → List Int → List Int → List Int
  | wk :: wks, k :: ks, u => runW wks ks (afterL u wk k.toNat)
  | _, _, u => u
theorem range_mul (n N : Nat) : List.range (n * N) = (List.range n).flatMap fun k => (List.range N).map fun y => y + k * N := by
  induction n with
  | zero => simp
  | succ n ih =>
    rw [Nat.succ_mul, List.range_add, ih, List.range_succ, List.flatMap_append]
    congr 1
    simp only [List.flatMap_cons, List.flatMap_nil, List.append_nil]
    exact List.map_congr_left fun y _ => Nat.add_comm _ _
theorem plansL_digs : ∀ (wks : List (List Int)) (t u : List Int), 0 < u.length → wksOk u.length wks →
    plansL wks t u = (List.range (u.length ^ wks.length)).map fun x => (t ++ digs u.length wks.length x, runW wks (digs u.length wks.length x) u)
  | [], t, u, _, _ => by simp [plansL, digs, runW]
  | wk :: rest, t, u, h, hok => by
    have hwl : wk.length = u.length := (hok wk (by simp)).1
    have hal : ∀ k, k < u.length → (afterL u wk k).length = u.length := fun k hk => afterL_len u wk k hwl (by omega)
    rw [plansL, List.length_cons, Nat.pow_succ, Nat.mul_comm, range_mul, List.map_flatMap]
    have hc : ∀ (f g : Nat → List (List Int × List Int)) (l : List Nat), (∀ k ∈ l, f k = g k) → l.flatMap f = l.flatMap g := by
      intro f g l hfg
      induction l with
      | nil => rfl
      | cons a l ih => rw [List.flatMap_cons, List.flatMap_cons, hfg a (by simp), ih fun k hk => hfg k (by simp [hk])]
    refine hc _ _ _ fun k hk => ?_
    have hk : k < u.length := List.mem_range.1 hk
    rw [plansL_digs rest (t ++ [(k : Int)]) (afterL u wk k) (by rw [hal k hk]; exact h) (by rw [hal k hk]; exact fun y hy => hok y (by simp [hy])), hal k hk, List.map_map]
    refine List.map_congr_left fun y hy => ?_
    have hy : y < u.length ^ rest.length := List.mem_range.1 hy
    have e1 : (y + k * u.length ^ rest.length) / u.length ^ rest.length % u.length = k := by
      rw [Nat.add_mul_div_right _ _ (Nat.pow_pos h), Nat.div_eq_of_lt hy, Nat.zero_add, Nat.mod_eq_of_lt hk]
    simp only [Function.comp, digs, e1, digs_add u.length h, runW, List.append_assoc, List.cons_append, List.nil_append, Int.toNat_natCast]
/-- The digits so far, behind zeros: what the loop from the least digit on has. -/
def zerosL (n m j x : Nat) : List Int := List.replicate (m - j) 0 ++ digs n j x
theorem zerosL_len {n m j x : Nat} (h : j ≤ m) : (zerosL n m j x).length = m := by unfold zerosL; rw [List.length_append, List.length_replicate, digs_len]; omega
theorem zerosL_set {n m j x : Nat} (h : j < m) : (zerosL n m j x).set (m - 1 - j) ((x / n ^ j % n : Nat) : Int) = zerosL n m (j + 1) x := by
  unfold zerosL
  rw [show m - j = (m - 1 - j) + 1 by omega, show m - (j + 1) = m - 1 - j by omega, List.replicate_succ', List.append_assoc, List.set_append_right _ _ (by simp), List.length_replicate, Nat.sub_self, digs]
  rfl
theorem runW_take : ∀ (wks : List (List Int)) (ts u : List Int) (j : Nat) (h1 : j < wks.length) (h2 : j < ts.length), runW (wks.take (j + 1)) (ts.take (j + 1)) u = afterL (runW (wks.take j) (ts.take j) u) wks[j] ts[j].toNat
  | [], _, _, _, h1, _ => absurd h1 (by simp)
  | _ :: _, [], _, _, _, h2 => absurd h2 (by simp)
  | wk :: wks, k :: ts, u, 0, _, _ => by simp [runW]
  | wk :: wks, k :: ts, u, j + 1, h1, h2 => by
    simp only [List.take_succ_cons, runW, List.getElem_cons_succ]
    exact runW_take wks ts _ j (by simpa using h1) (by simpa using h2)
theorem runW_spec (n : Nat) (hn : 0 < n) : ∀ (wks : List (List Int)) (ts u : List Int) (B : Int), u.length = n → wksOk n wks → (∀ d ∈ ts, 0 ≤ d ∧ d < n) → 0 ≤ B → (∀ y ∈ u, 0 ≤ y ∧ y ≤ B) → (runW wks ts u).length = n ∧ ∀ y ∈ runW wks ts u, 0 ≤ y ∧ y ≤ B + 1000000000 * wks.length
  | [], ts, u, B, hl, _, _, h0, hb => by simp only [runW]; exact ⟨hl, fun y hy => by have := hb y hy; simp; omega⟩
  | wk :: wks, [], u, B, hl, _, _, h0, hb => by simp only [runW]; exact ⟨hl, fun y hy => by have := hb y hy; simp only [List.length_cons]; omega⟩
  | wk :: wks, k :: ts, u, B, hl, hok, hd, h0, hb => by
    have hk := hd k (by simp)
    have hw := hok wk (by simp)
    have hal : (afterL u wk k.toNat).length = n := by rw [afterL_len u wk k.toNat (by omega) (by omega)]; exact hl
    have hbd : ∀ y ∈ afterL u wk k.toNat, 0 ≤ y ∧ y ≤ B + 1000000000 := by
      intro y hy
      unfold afterL addL at hy
      obtain ⟨i, hi, rfl⟩ := List.mem_iff_getElem.1 hy
      rw [List.getElem_zipWith]
      have h1 := hb _ (List.getElem_mem (l := u) (n := i) (by simp at hi; omega))
      have h2 := hw.2 _ (turnL_mem wk k.toNat _ (List.getElem_mem (l := turnL wk k.toNat) (n := i) (by simp at hi; omega)))
      omega
    have := runW_spec n hn wks ts (afterL u wk k.toNat) (B + 1000000000) hal (fun y hy => hok y (by simp [hy])) (fun d hd' => hd d (by simp [hd'])) (by omega) hbd
    simp only [runW]
    exact ⟨this.1, fun y hy => by have := this.2 y hy; simp only [List.length_cons]; omega⟩
end Go.Proofs.YtlkbbcfbnbnagaaGreat
