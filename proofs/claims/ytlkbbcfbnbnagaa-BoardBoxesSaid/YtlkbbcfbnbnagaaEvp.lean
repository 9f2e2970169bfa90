/-
  Plain: even wear, and how long a board lasts.
-/
import Derived.Test.YtlkbbcfbnbnagaaBoY
import Derived.Test.YtlkbbcfbnbnagaaMdt
namespace Go.Proofs.Ytlkbbcfbnbnagaa
theorem fold_best : ∀ (l : List (List Int × List Int)) (o : Option (List Int × List Int)), (∀ q, q ∈ l ∨ o = some q → ∃ p, l.foldl bestStep o = some p ∧ maxL p.2 ≤ maxL q.2)
  | [], o, q, h => by
    rcases h with h | h
    · cases h
    · exact ⟨q, h, Int.le_refl _⟩
  | x :: l, o, q, h => by
    have key : ∃ p, bestStep o x = some p ∧ maxL p.2 ≤ maxL x.2 ∧ ∀ r, o = some r → maxL p.2 ≤ maxL r.2 := by
      unfold bestStep
      split
      · exact ⟨x, rfl, Int.le_refl _, fun r h => by cases h⟩
      · rename_i r
        split
        · exact ⟨x, rfl, Int.le_refl _, fun r' h => by cases h; omega⟩
        · exact ⟨r, rfl, by omega, fun r' h => by cases h; omega⟩
    obtain ⟨p, hp, h1, h2⟩ := key
    rw [List.foldl_cons]
    rcases h with h | h
    · rcases List.mem_cons.1 h with rfl | h
      · obtain ⟨p', e, h'⟩ := fold_best l (bestStep o q) p (.inr hp)
        exact ⟨p', e, by omega⟩
      · exact fold_best l _ q (.inl h)
    · obtain ⟨p', e, h'⟩ := fold_best l (bestStep o x) p (.inr hp)
      have := h2 q h
      exact ⟨p', e, by omega⟩
theorem bestL_min {l : List (List Int × List Int)} {p q : List Int × List Int} (h : bestL l = some p) (hq : q ∈ l) : maxL p.2 ≤ maxL q.2 := by
  obtain ⟨p', e, h'⟩ := fold_best l none q (.inl hq)
  have : some p = some p' := h.symm.trans e
  cases this
  exact h'
theorem bestP_spec {worn : List Int} {wks : List (List Int)} (h0 : 0 < worn.length) (hok : wksOk worn.length wks) : bestP worn wks ∈ plansL wks [] worn ∧ ∀ q ∈ plansL wks [] worn, maxL (bestP worn wks).2 ≤ maxL q.2 := by
  unfold bestP
  cases hb : bestL (plansL wks [] worn) with
  | none => exact absurd (bestL_none hb) (plansL_ne wks [] worn h0 hok)
  | some p => exact ⟨bestL_mem hb, fun q hq => bestL_min hb hq⟩
theorem plans_one' (week u : List Int) (k : Nat) (hk : k < u.length) : ([(k : Int)], afterL u week k) ∈ plansL [week] [] u := by
  simp only [plansL, List.mem_flatMap, List.mem_singleton, List.mem_range]
  exact ⟨k, hk, rfl⟩
theorem plans_two {w1 w2 u : List Int} {p : List Int × List Int} (h : p ∈ plansL [w1, w2] [] u) : ∃ k j : Nat, k < u.length ∧ j < (afterL u w1 k).length ∧ p = ([(k : Int), (j : Int)], afterL (afterL u w1 k) w2 j) := by
  simp only [plansL, List.mem_flatMap, List.mem_singleton, List.mem_range] at h
  obtain ⟨k, hk, j, hj, rfl⟩ := h
  exact ⟨k, j, hk, hj, rfl⟩
theorem plans_two' (w1 w2 u : List Int) (k j : Nat) (hk : k < u.length) (hj : j < (afterL u w1 k).length) : ([(k : Int), (j : Int)], afterL (afterL u w1 k) w2 j) ∈ plansL [w1, w2] [] u := by
  simp only [plansL, List.mem_flatMap, List.mem_singleton, List.mem_range]
  exact ⟨k, hk, j, hj, rfl⟩
def sumL (l : List Int) : Int := l.foldl (· + ·) 0
theorem sumL_from : ∀ (l : List Int) (a : Int), l.foldl (· + ·) a = a + sumL l
  | [], a => by simp [sumL]
  | x :: l, a => by
    unfold sumL
    rw [List.foldl_cons, List.foldl_cons, sumL_from l (a + x), sumL_from l (0 + x)]
    omega
theorem sumL_cons (x : Int) (l : List Int) : sumL (x :: l) = x + sumL l := by
  have := sumL_from l (0 + x)
  unfold sumL at this ⊢
  rw [List.foldl_cons, this]; omega
theorem sumL_snoc (l : List Int) (x : Int) : sumL (l ++ [x]) = sumL l + x := by
  unfold sumL; rw [List.foldl_append]; rfl
theorem sumL_perm {a b : List Int} (h : a.Perm b) : sumL a = sumL b := by
  induction h with
  | nil => rfl
  | cons x _ ih => rw [sumL_cons, sumL_cons, ih]
  | swap x y l => rw [sumL_cons, sumL_cons, sumL_cons, sumL_cons]; omega
  | trans _ _ h1 h2 => exact h1.trans h2
theorem sumL_add : ∀ (a b : List Int), a.length = b.length → sumL (addL a b) = sumL a + sumL b
  | [], [], _ => rfl
  | x :: a, y :: b, h => by
    unfold addL
    rw [List.zipWith_cons_cons, sumL_cons, sumL_cons, sumL_cons]
    have := sumL_add a b (by simpa using h)
    unfold addL at this
    rw [this]; omega
  | [], _ :: _, h => by simp at h
  | _ :: _, [], h => by simp at h
theorem sumL_after (u wk : List Int) (k : Nat) (h : wk.length = u.length) (hk : k ≤ u.length) : sumL (afterL u wk k) = sumL u + sumL wk := by
  unfold afterL
  rw [sumL_add _ _ (by rw [turnL_len wk k (by omega), h]), sumL_perm (turnL_perm wk k)]
theorem sumL_max (l : List Int) (m : Int) (h : ∀ y ∈ l, y ≤ m) : sumL l ≤ m * l.length := by
  induction l with
  | nil => simp [sumL]
  | cons x l ih =>
    rw [sumL_cons, List.length_cons]
    have h1 := h x (by simp)
    have h2 := ih fun y hy => h y (by simp [hy])
    have e : m * ((l.length + 1 : Nat) : Int) = m * (l.length : Int) + m := by rw [Int.natCast_add, Int.mul_add]; simp
    rw [e]
    omega
theorem sumL_pos (l : List Int) (h : ∀ y ∈ l, 0 ≤ y) : 0 ≤ sumL l ∧ (sumL l = 0 → ∀ y ∈ l, y = 0) := by
  induction l with
  | nil => exact ⟨by simp [sumL], fun _ y hy => by cases hy⟩
  | cons x l ih =>
    rw [sumL_cons]
    have h1 := h x (by simp)
    obtain ⟨h2, h3⟩ := ih fun y hy => h y (by simp [hy])
    refine ⟨by omega, fun e y hy => ?_⟩
    rcases List.mem_cons.1 hy with rfl | hy
    · omega
    · exact h3 (by omega) y hy
def mostL (l : List Int) : Int := l.foldl max 0
theorem mostL_snoc (l : List Int) (x : Int) : mostL (l ++ [x]) = max (mostL l) x := by
  unfold mostL; rw [List.foldl_append]; rfl
theorem mostL_max {l : List Int} (h0 : 0 < l.length) (h : ∀ y ∈ l, 0 ≤ y) : mostL l = maxL l := by
  cases l with
  | nil => simp at h0
  | cons x l =>
    have : max 0 x = x := by have := h x (by simp); omega
    unfold mostL maxL
    rw [List.foldl_cons, this]
    rfl
/-- Numbers between 0 and a bound, n of them. -/
structure Wor (n : Nat) (m : Int) (l : List Int) : Prop where
  len : l.length = n
  pos : ∀ y ∈ l, 0 ≤ y ∧ y ≤ m
theorem Wor.after {n k : Nat} {m m' : Int} {u wk : List Int} (hu : Wor n m u) (hw : Wor n m' wk) (hk : k < n) : Wor n (m + m') (afterL u wk k) :=
  ⟨by rw [afterL_len u wk k (by rw [hu.len, hw.len]) (by rw [hu.len]; omega), hu.len], fun y hy => by
    obtain ⟨a, ha, b, hb, rfl⟩ := afterL_mem hy
    have := hu.pos a ha
    have := hw.pos b hb
    omega⟩
theorem Wor.max {n : Nat} {m : Int} {u : List Int} (h : Wor n m u) (hn : 0 < n) : 0 ≤ maxL u ∧ maxL u ≤ m := by
  have hm : maxL u ∈ u := by
    have := h.len
    cases u with
    | nil => simp at this; omega
    | cons x l =>
      have key : ∀ (l : List Int) (a : Int), l.foldl Max.max a = a ∨ l.foldl Max.max a ∈ l := by
        intro l
        induction l with
        | nil => intro a; exact .inl rfl
        | cons y l ih =>
          intro a
          rw [List.foldl_cons]
          rcases ih (Max.max a y) with e | e
          · rw [e]
            rcases Int.le_total a y with h | h
            · right; rw [Int.max_eq_right h]; simp
            · left; rw [Int.max_eq_left h]
          · right; simp [e]
      unfold maxL
      show List.foldl Max.max x l ∈ _
      rcases key l x with e | e
      · rw [e]; simp
      · simp [e]
  exact h.pos _ hm
theorem Wor.mono {n : Nat} {m m' : Int} {u : List Int} (h : Wor n m u) (hm : m ≤ m') : Wor n m' u := ⟨h.len, fun y hy => by have := h.pos y hy; omega⟩
theorem wat_ok {b : Brd} {n : Nat} (he : errB b = 0) (hn : b.nums.length = n) {u : List Int} {wks : List (List Int)} (hu : Wor n 1000000000 u) (hw : ∀ wk ∈ wks, Wor n 1000000 wk) : watB b u wks = 0 := by
  have hi : ∀ {lo hi : Int} {l : List Int}, (∀ y ∈ l, lo ≤ y ∧ y ≤ hi) → ins lo hi l = true := by
    intro lo hi l h
    unfold ins
    rw [Bool.not_eq_true', List.any_eq_false]
    intro y hy
    have := h y hy
    simp only [out1, Bool.or_eq_true, decide_eq_true_eq]
    omega
  unfold watB formB
  rw [if_neg (by simp [he]), if_neg, if_neg]
  · rw [hi hu.pos]
    simp only [Bool.not_true, Bool.false_or, List.any_eq_true, not_exists, not_and, Bool.not_eq_true', Bool.not_eq_false]
    exact fun wk hk => hi (hw wk hk).pos
  · rw [hn]
    simp only [Bool.or_eq_true, decide_eq_true_eq, List.any_eq_true, not_or, not_exists, not_and, Decidable.not_not]
    exact ⟨hu.len, fun wk hk => (hw wk hk).len⟩
section
variable {b : Brd} {n : Nat} (he : errB b = 0) (hn : b.nums.length = n) (hn0 : 0 < n ∧ n ≤ 20)
include he hn hn0
theorem wear_ok {u wk : List Int} {k : Nat} (hu : Wor n 100000000 u) (hw : Wor n 1000000 wk) (hk : k < n) : wearR b u wk (k : Int) = (afterL u wk k, 0) := by
  have hm := ((hu.after hw hk).max hn0.1).2
  unfold wearR
  rw [if_neg (by rw [wat_ok he hn (hu.mono (by omega)) (by simpa using hw)]; simp), if_pos (ins_one.2 (by omega)), Int.toNat_natCast, if_neg (by omega)]
theorem best_ok {u wk : List Int} (hu : Wor n 100000000 u) (hw : Wor n 1000000 wk) : ∃ k : Nat, k < n ∧ bestR b u wk = ((k : Int), maxL (afterL u wk k), 0) ∧ planR b u [wk] = ([(k : Int)], maxL (afterL u wk k), 0) ∧ (bestP u [wk]).2 = afterL u wk k ∧ ∀ j, j < n → maxL (afterL u wk k) ≤ maxL (afterL u wk j) := by
  obtain ⟨h1, h2⟩ := bestP_spec (worn := u) (wks := [wk]) (by rw [hu.len]; exact hn0.1) (fun y hy => by
    obtain rfl : y = wk := by simpa using hy
    exact ⟨by rw [hu.len, hw.len], fun z hz => by have := hw.pos z hz; omega⟩)
  obtain ⟨k, hk, e⟩ := plans_one h1
  rw [hu.len] at hk
  have hm := ((hu.after hw hk).max hn0.1).2
  have hwt := wat_ok he hn (u := u) (wks := [wk]) (hu.mono (by omega)) (by simpa using hw)
  refine ⟨k, hk, ?_, ?_, by rw [e], fun j hj => ?_⟩
  · unfold bestR
    rw [if_neg (by rw [hwt]; simp), e, if_neg (by show ¬ 1000000000 < maxL (afterL u wk k); omega)]
    rfl
  · unfold planR
    rw [if_neg (by simp [he]), if_neg (by simp), if_neg (by rw [hwt]; simp), e, if_neg (by show ¬ 1000000000 < maxL (afterL u wk k); omega)]
  · have := h2 _ (plans_one' wk u j (by rw [hu.len]; exact hj))
    rw [e] at this
    exact this
theorem plan_ok {u w1 w2 : List Int} (hu : Wor n 100000000 u) (h1 : Wor n 1000000 w1) (h2 : Wor n 1000000 w2) : ∃ k j : Nat, k < n ∧ j < n ∧ planR b u [w1, w2] = ([(k : Int), (j : Int)], maxL (afterL (afterL u w1 k) w2 j), 0) ∧ ∀ k' j', k' < n → j' < n → maxL (afterL (afterL u w1 k) w2 j) ≤ maxL (afterL (afterL u w1 k') w2 j') := by
  obtain ⟨g1, g2⟩ := bestP_spec (worn := u) (wks := [w1, w2]) (by rw [hu.len]; exact hn0.1) (fun y hy => by
    have : y = w1 ∨ y = w2 := by simpa using hy
    rcases this with rfl | rfl
    · exact ⟨by rw [hu.len, h1.len], fun z hz => by have := h1.pos z hz; omega⟩
    · exact ⟨by rw [hu.len, h2.len], fun z hz => by have := h2.pos z hz; omega⟩)
  obtain ⟨k, j, hk, hj, e⟩ := plans_two g1
  rw [hu.len] at hk
  rw [(hu.after h1 hk).len] at hj
  have hm := (((hu.after h1 hk).after h2 hj).max hn0.1).2
  have hwt := wat_ok he hn (u := u) (wks := [w1, w2]) (hu.mono (by omega)) (by
    intro y hy
    have : y = w1 ∨ y = w2 := by simpa using hy
    rcases this with rfl | rfl
    · exact h1
    · exact h2)
  refine ⟨k, j, hk, hj, ?_, fun k' j' hk' hj' => ?_⟩
  · unfold planR
    rw [if_neg (by simp [he]), if_neg (by simp), if_neg (by rw [hwt]; simp), e, if_neg (by show ¬ 1000000000 < maxL (afterL (afterL u w1 k) w2 j); omega)]
  · have := g2 _ (plans_two' w1 w2 u k' j' (by rw [hu.len]; exact hk') (by rw [(hu.after h1 hk').len]; exact hj'))
    rw [e] at this
    exact this
end
theorem Wor.sum {n : Nat} {m : Int} {u : List Int} (h : Wor n m u) : sumL u ≤ maxL u * n := by
  have := sumL_max u (maxL u) (fun y hy => maxL_ge u y hy)
  rwa [h.len] at this
/-- Wear week by week. -/
def seqW (week : List Int) : Nat → List Int → List Int
  | 0, u => u
  | n + 1, u => seqW week n (bestP u [week]).2
theorem lastL_spec (week : List Int) (limit : Int) : ∀ (f n : Nat) (u : List Int), (lastL week limit f n u = -1 ∧ ∀ j, j < f → maxL (seqW week j u) ≤ limit) ∨ ∃ m, m < f ∧ lastL week limit f n u = ((n + m : Nat) : Int) ∧ limit < maxL (seqW week m u) ∧ ∀ j, j < m → maxL (seqW week j u) ≤ limit
  | 0, n, u => .inl ⟨rfl, fun j hj => by omega⟩
  | f + 1, n, u => by
    unfold lastL
    split
    · rename_i h
      exact .inr ⟨0, by omega, rfl, h, fun j hj => by omega⟩
    · rename_i h
      rcases lastL_spec week limit f (n + 1) (bestP u [week]).2 with ⟨h1, h2⟩ | ⟨m, h1, h2, h3, h4⟩
      · refine .inl ⟨h1, fun j hj => ?_⟩
        cases j with
        | zero => show maxL u ≤ limit; omega
        | succ j => exact h2 j (by omega)
      · refine .inr ⟨m + 1, by omega, by rw [h2]; congr 1; omega, h3, fun j hj => ?_⟩
        cases j with
        | zero => show maxL u ≤ limit; omega
        | succ j => exact h4 j (by omega)
theorem seqW_succ (week : List Int) : ∀ (n : Nat) (u : List Int), seqW week (n + 1) u = (bestP (seqW week n u) [week]).2
  | 0, _ => rfl
  | n + 1, u => seqW_succ week n (bestP u [week]).2
def lastW (worn week : List Int) (limit : Int) : Int := lastL week limit 501 0 worn
theorem lastW_spec (worn week : List Int) (limit : Int) : (lastW worn week limit = -1 ∧ ∀ j, j < 501 → maxL (seqW week j worn) ≤ limit) ∨ ∃ m : Nat, m < 501 ∧ lastW worn week limit = (m : Int) ∧ limit < maxL (seqW week m worn) ∧ ∀ j, j < m → maxL (seqW week j worn) ≤ limit := by
  rcases lastL_spec week limit 501 0 worn with h | ⟨m, h1, h2, h3, h4⟩
  · exact .inl h
  · exact .inr ⟨m, h1, by unfold lastW; rw [h2, Nat.zero_add], h3, h4⟩
theorem last_longer (worn week : List Int) (limit : Int) : lastW worn week (limit + 100) ≠ -1 → lastW worn week limit ≠ -1 ∧ lastW worn week limit ≤ lastW worn week (limit + 100) := by
  intro h
  rcases lastW_spec worn week (limit + 100) with ⟨h1, -⟩ | ⟨m, h1, h2, h3, h4⟩
  · exact absurd h1 h
  · rcases lastW_spec worn week limit with ⟨g1, g2⟩ | ⟨m', g1, g2, g3, g4⟩
    · have := g2 m h1; omega
    · rw [g2, h2]
      refine ⟨by omega, ?_⟩
      rcases Nat.lt_or_ge m m' with h | h
      · have := g4 m h; omega
      · omega
theorem last_ok {b : Brd} {n : Nat} (he : errB b = 0) (hn : b.nums.length = n) {u wk : List Int} (hu : Wor n 100000000 u) (hw : Wor n 1000000 wk) {limit : Int} (hl : 0 ≤ limit ∧ limit ≤ 1000000000) : lastR b u wk limit = (lastW u wk limit, 0) := by
  unfold lastR lastW
  rw [if_neg (by rw [wat_ok he hn (hu.mono (by omega)) (by simpa using hw)]; simp), if_pos (ins_one.2 hl)]
theorem seqW_wor {b : Brd} {n : Nat} (he : errB b = 0) (hn : b.nums.length = n) (hn0 : 0 < n ∧ n ≤ 20) {u wk : List Int} (hu : Wor n 1000 u) (hw : Wor n 1000 wk) : ∀ k : Nat, k ≤ 1000 → Wor n (1000 + 1000 * k) (seqW wk k u)
  | 0, _ => hu.mono (by simp)
  | k + 1, hk => by
    have h := seqW_wor he hn hn0 hu hw k (by omega)
    obtain ⟨j, hj, -, -, e, -⟩ := best_ok he hn hn0 (h.mono (by omega : _ ≤ (100000000 : Int))) (hw.mono (by omega))
    rw [seqW_succ, e]
    exact (h.after hw hj).mono (by omega)
theorem afterL_zero {u wk : List Int} (h : wk.length = u.length) (hz : ∀ y ∈ wk, y = 0) (k : Nat) (hk : k ≤ u.length) : afterL u wk k = u := by
  refine List.ext_getElem (afterL_len u wk k h hk) fun i h1 h2 => ?_
  simp only [afterL, addL, List.getElem_zipWith]
  have := hz _ (turnL_mem wk k _ (List.getElem_mem (by rw [turnL_len wk k (by omega), h]; exact h2)))
  rw [this, Int.add_zero]
/-- Without hits the wear stays as it is. -/
theorem last_zero {b : Brd} {n : Nat} (he : errB b = 0) (hn : b.nums.length = n) (hn0 : 0 < n ∧ n ≤ 20) {u wk : List Int} (hu : Wor n 1000 u) (hw : Wor n 1000 wk) (limit : Int) : 0 < sumL wk ∨ lastW u wk limit = 0 ∨ lastW u wk limit = -1 := by
  obtain ⟨h1, h2⟩ := sumL_pos wk fun y hy => (hw.pos y hy).1
  rcases Int.lt_or_eq_of_le h1 with h | h
  · exact .inl h
  · have hz := h2 h.symm
    have hs : ∀ k, seqW wk k u = u := by
      intro k
      induction k with
      | zero => rfl
      | succ k ih =>
        obtain ⟨j, hj, -, -, e, -⟩ := best_ok he hn hn0 (hu.mono (by omega : _ ≤ (100000000 : Int))) (hw.mono (by omega))
        rw [seqW_succ, ih, e, afterL_zero (by rw [hu.len, hw.len]) hz j (by rw [hu.len]; omega)]
    rcases lastW_spec u wk limit with ⟨h1, -⟩ | ⟨m, h1, h2, h3, h4⟩
    · exact .inr (.inr h1)
    · refine .inr (.inl ?_)
      cases m with
      | zero => exact h2
      | succ m =>
        have := h4 0 (by omega)
        rw [hs] at h3 this
        omega
/-- What bytes make of wear. -/
def byW (l : List Int) (i : Nat) : Int := if l.length = 0 then 0 else l.getD (i % l.length) 0
def wornW (l : List Int) (n : Nat) : List Int := (List.range n).map fun i => 3 * byW l i
def weekW (l : List Int) (n k : Nat) : List Int := (List.range n).map fun i => byW l (i + 5 * k + 1)
theorem byW_small {l : List Int} (h : ∀ y ∈ l, 0 ≤ y ∧ y ≤ 255) (i : Nat) : 0 ≤ byW l i ∧ byW l i ≤ 255 := by
  unfold byW
  split
  · omega
  · rename_i h0
    have hi : i % l.length < l.length := Nat.mod_lt _ (by omega)
    rw [List.getD_eq_getElem?_getD, List.getElem?_eq_getElem hi]
    exact h _ (List.getElem_mem hi)
theorem wornW_wor {l : List Int} (h : ∀ y ∈ l, 0 ≤ y ∧ y ≤ 255) (n : Nat) : Wor n 1000 (wornW l n) :=
  ⟨by unfold wornW; simp, fun y hy => by
    unfold wornW at hy
    obtain ⟨i, -, rfl⟩ := List.mem_map.1 hy
    have := byW_small h i
    omega⟩
theorem weekW_wor {l : List Int} (h : ∀ y ∈ l, 0 ≤ y ∧ y ≤ 255) (n k : Nat) : Wor n 1000 (weekW l n k) :=
  ⟨by unfold weekW; simp, fun y hy => by
    unfold weekW at hy
    obtain ⟨i, -, rfl⟩ := List.mem_map.1 hy
    have := byW_small h (i + 5 * k + 1)
    omega⟩
end Go.Proofs.Ytlkbbcfbnbnagaa
