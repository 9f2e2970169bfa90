/-
  Plain: points farther out; a board in a mirror; what All holds.
-/
import Derived.Test.YtlkbbcfbnbnagaaMdp
import Derived.Test.YtlkbbcfbnbnagaaBpB
namespace Go.Proofs.Ytlkbbcfbnbnagaa
def mirP (p : Pt) : Pt := ⟨-p.x, p.y⟩
def mulP (p : Pt) (t : Int) : Pt := ⟨p.x * t, p.y * t⟩
theorem mul_sign {t : Int} (ht : 1 ≤ t ∧ t ≤ 4) (x : Int) : (x * t < 0 ↔ x < 0) ∧ (0 < x * t ↔ 0 < x) := by
  obtain ⟨h1, h2⟩ := ht
  obtain rfl | rfl | rfl | rfl : t = 1 ∨ t = 2 ∨ t = 3 ∨ t = 4 := by omega
  all_goals omega
theorem far_bef {t : Int} (ht : 1 ≤ t ∧ t ≤ 4) (f d q : Pt) : befP f (mulP d t) q = befP f d q := by
  have e1 : crossP f (mulP d t) = crossP f d * t := by unfold crossP mulP; grind
  have e2 : dotP f (mulP d t) = dotP f d * t := by unfold dotP mulP; grind
  have e3 : crossP (mulP d t) q = crossP d q * t := by unfold crossP mulP; grind
  have h1 := mul_sign ht (crossP f d)
  have h2 := mul_sign ht (dotP f d)
  have h3 := mul_sign ht (crossP d q)
  unfold befP partP
  simp only [e1, e2, e3, h1.1, h1.2, h2.2, h3.1]
theorem far_up {t : Int} (ht : 1 ≤ t ∧ t ≤ 4) (f d : Pt) (l : List Pt) : ∀ k, secUp f (mulP d t) l k = secUp f d l k
  | 0 => rfl
  | k + 1 => by
    unfold secUp
    rw [far_bef ht, far_up ht f d l k]
theorem far_sec {t : Int} (ht : 1 ≤ t ∧ t ≤ 4) (d : Pt) (l : List Pt) : secB l (mulP d t) = secB l d := far_up ht _ _ _ _
theorem bed_kind {b : Brd} (hg : GoodB b) (hl : linesB b.lines = true) (p : Pt) :
    (bedB b p = 0 ∨ bedB b p = 225 ∨ bedB b p = 125) ∨ ∃ r, r ∈ b.rings ∧ (1 ≤ r.factor ∧ r.factor ≤ 4) ∧ secB b.lines p < b.nums.length ∧ bedB b p = 100 * r.factor + b.nums.getD (secB b.lines p) 0 := by
  unfold bedB
  split
  · exact .inl (.inl rfl)
  split
  · exact .inl (.inr (.inl rfl))
  split
  · exact .inl (.inr (.inr rfl))
  unfold bedOf
  cases hr : ringOf b (dotP p p) with
  | none => exact .inl (.inl rfl)
  | some r =>
    simp only
    by_cases hf0 : r.factor = 0
    · rw [if_pos hf0]; exact .inl (.inl rfl)
    · rw [if_neg hf0]
      have hm := List.mem_of_find?_eq_some hr
      have hf := hg.fac r hm
      have hs : secB b.lines p < b.nums.length := by
        rw [hg.len]
        obtain ⟨h3, hb, -, -⟩ := lines_link hl
        have hf := ptAt_nz hb (by omega : 0 < b.lines.length)
        unfold secB
        exact (secUp_spec (l := b.lines) (f := ptAt b.lines 0) (d := p) (bef_not_first hf) b.lines.length (by omega)).1
      exact .inr ⟨r, hm, by omega, hs, rfl⟩
theorem num_at {b : Brd} (hg : GoodB b) {i : Nat} (h : i < b.nums.length) : b.nums.getD i 0 ∈ b.nums ∧ 1 ≤ b.nums.getD i 0 ∧ b.nums.getD i 0 ≤ 20 := by
  have e : b.nums.getD i 0 = b.nums[i] := by rw [List.getD_eq_getElem?_getD, List.getElem?_eq_getElem h]; rfl
  rw [e]
  exact ⟨List.getElem_mem h, hg.num _ (List.getElem_mem h)⟩
theorem tmod_bed {f n : Int} (hf : 1 ≤ f ∧ f ≤ 4) (hn : 1 ≤ n ∧ n ≤ 20) : (100 * f + n).tmod 100 = n := by
  rw [Int.tmod_eq_emod_of_nonneg (by omega)]; omega
/-- Farther out in the same direction. -/
theorem far_ok {b : Brd} (hg : GoodB b) (hl : linesB b.lines = true) {t : Int} (ht : 1 ≤ t ∧ t ≤ 4) (p : Pt) :
    (bedB b (mulP p t)).tmod 100 = (bedB b p).tmod 100 ∨ bedB b (mulP p t) = 0 ∨ bedB b p = 0 ∨ (bedB b (mulP p t)).tmod 100 = 25 ∨ (bedB b p).tmod 100 = 25 := by
  rcases bed_kind hg hl p with (h | h | h) | ⟨r, -, hf, hs, h⟩
  · exact .inr (.inr (.inl h))
  · exact .inr (.inr (.inr (.inr (by rw [h]; rfl))))
  · exact .inr (.inr (.inr (.inr (by rw [h]; rfl))))
  rcases bed_kind hg hl (mulP p t) with (h' | h' | h') | ⟨r', -, hf', hs', h'⟩
  · exact .inr (.inl h')
  · exact .inr (.inr (.inr (.inl (by rw [h']; rfl))))
  · exact .inr (.inr (.inr (.inl (by rw [h']; rfl))))
  rw [far_sec ht] at h'
  have hn := (num_at hg hs).2
  rw [h, h', tmod_bed hf hn, tmod_bed hf' hn]
  exact .inl rfl
theorem allM_mem {b : Brd} {r : Rg} (hr : r ∈ b.rings) (hf : 0 < r.factor) {n : Int} (hn : n ∈ b.nums) : 100 * r.factor + n ∈ allM b := by
  unfold allM allTo
  refine List.mem_append_right _ (List.mem_flatMap.2 ⟨r, ?_, ?_⟩)
  · rw [List.take_of_length_le (Nat.le_refl _)]; exact hr
  · unfold ringL
    rw [if_pos hf]
    exact List.mem_map.2 ⟨n, hn, rfl⟩
/-- Each point is in one bed of the board, or none. -/
theorem found_ok {b : Brd} (hg : GoodB b) (hl : linesB b.lines = true) (p : Pt) : bedB b p = 0 ∨ bedB b p ∈ setL (allM b) := by
  rcases bed_kind hg hl p with (h | h | h) | ⟨r, hr, hf, hs, h⟩
  · exact .inl h
  · refine .inr ((setL_mem _ _).2 ⟨by omega, ?_⟩)
    rw [h]; unfold allM allTo; simp
  · refine .inr ((setL_mem _ _).2 ⟨by omega, ?_⟩)
    rw [h]; unfold allM allTo; simp
  · have hn := num_at hg hs
    refine .inr ((setL_mem _ _).2 ⟨by omega, ?_⟩)
    rw [h]
    exact allM_mem hr (by omega) hn.1
theorem allM_pos {b : Brd} (hg : GoodB b) : ∀ x ∈ allM b, 1 ≤ x := by
  intro x hx
  unfold allM allTo at hx
  rcases List.mem_append.1 hx with h | h
  · simp at h; omega
  · obtain ⟨r, hr, hx⟩ := List.mem_flatMap.1 h
    have hf := hg.fac r (List.mem_of_mem_take hr)
    unfold ringL at hx
    split at hx
    · obtain ⟨n, hn, rfl⟩ := List.mem_map.1 hx
      have := hg.num n hn
      omega
    · cases hx
theorem all_up {b : Brd} (hg : GoodB b) : (∀ i, (h : i < (setL (allM b)).length) → 1 ≤ (setL (allM b))[i]) ∧ ∀ i, (h : i + 1 < (setL (allM b)).length) → (setL (allM b))[i] < (setL (allM b))[i + 1] := by
  refine ⟨fun i h => allM_pos hg _ ((setL_mem _ _).1 (List.getElem_mem h)).2, fun i h => ?_⟩
  exact List.pairwise_iff_getElem.1 (setL_sorted (allM b)) i (i + 1) (by omega) h (by omega)
/-- Lines and numbers in a mirror. -/
def mirL (l : List Pt) : List Pt := (List.range l.length).map fun i => mirP (ptAt l ((l.length - i) % l.length))
def mirN (l : List Int) : List Int := (List.range l.length).map fun i => l.getD (l.length - 1 - i) 0
def mirB (b : Brd) : Brd := ⟨b.eye, b.bull, b.rings, mirL b.lines, mirN b.nums, b.wire⟩
theorem mirL_len (l : List Pt) : (mirL l).length = l.length := by unfold mirL; simp
theorem mirN_len (l : List Int) : (mirN l).length = l.length := by unfold mirN; simp
theorem mirL_at (l : List Pt) {i : Nat} (h : i < l.length) : ptAt (mirL l) i = mirP (ptAt l ((l.length - i) % l.length)) := by
  unfold mirL
  show List.getD _ _ _ = _
  rw [List.getD_eq_getElem?_getD, List.getElem?_map, List.getElem?_range h]
  rfl
theorem mirN_rev (l : List Int) : mirN l = l.reverse := by
  refine List.ext_getElem (by rw [mirN_len, List.length_reverse]) fun i h1 h2 => ?_
  rw [mirN_len] at h1
  rw [List.getElem_reverse]
  simp only [mirN, List.getElem_map, List.getElem_range]
  rw [List.getD_eq_getElem?_getD, List.getElem?_eq_getElem (by omega)]
  rfl
theorem mir_cross (a b : Pt) : crossP (mirP a) (mirP b) = -crossP a b := by unfold crossP mirP; grind
theorem mir_dot (a b : Pt) : dotP (mirP a) (mirP b) = dotP a b := by unfold dotP mirP; grind
theorem pos_lines (s : Nat) (pos : Nat → Nat) (n : Nat) (h3 : 3 ≤ n) (h0 : pos 0 = 0) (hs : ∀ i, i + 1 < n → pos i < pos (i + 1) ∧ pos (i + 1) ≤ pos i + 8) (hlt : ∀ i, i < n → pos i < 24) (hend : 24 ≤ pos (n - 1) + 8)
    (l : List Pt) (hln : l.length = n) (hl : ∀ i, i < n → ptAt l i = cmpAt (s + pos i)) : linesB l = true := by
  unfold linesB
  rw [hln, Bool.and_eq_true, Bool.and_eq_true, decide_eq_true_eq, Bool.not_eq_true', List.any_eq_false, List.all_eq_true]
  refine ⟨h3, fun p hp => ?_, fun i hi => ?_⟩
  · obtain ⟨i, hi, rfl⟩ := List.getElem_of_mem hp
    have e : l[i] = ptAt l i := by show _ = List.getD _ _ _; rw [List.getD_eq_getElem?_getD, List.getElem?_eq_getElem hi]; rfl
    rw [e, hl i (by omega), cmp_good']
    simp
  · have hi := List.mem_range.1 hi
    unfold linkB
    rw [hln]
    rcases Nat.lt_or_ge (i + 1) n with h1 | h1
    · rw [Nat.mod_eq_of_lt h1, hl i hi, hl _ h1, hl 0 (by omega), h0]
      have hs := hs i h1
      have hq := hlt (i + 1) h1
      have e1 := cmp_link' (s + pos i) (pos (i + 1) - pos i) (by omega) (by omega)
      rw [show s + pos i + (pos (i + 1) - pos i) = s + pos (i + 1) by omega] at e1
      have e2 := cmp_bef' s (pos i) (pos (i + 1)) hs.1 hq
      rw [e1]
      simp only [Nat.add_zero]
      rw [e2]
      simp
    · have hin : i + 1 = n := by omega
      rw [hin, Nat.mod_self, hl i hi, hl 0 (by omega), h0]
      have hp := hlt i hi
      have e : n - 1 = i := by omega
      rw [e] at hend
      have e1 := cmp_link' (s + pos i) (24 - pos i) (by omega) (by omega)
      have e2 : cmpAt (s + pos i + (24 - pos i)) = cmpAt (s + 0) := by
        rw [show s + pos i + (24 - pos i) = s + 24 by omega]
        unfold cmpAt
        rw [Nat.add_mod_right]
        rfl
      rw [e2] at e1
      rw [e1]
      simp
theorem cmp_mir : (List.range 24).all (fun i => decide (mirP (cmpAt i) = cmpAt (24 - i))) = true := by decide +kernel
theorem cmp_mir' (i : Nat) : mirP (cmpAt i) = cmpAt (24 - i % 24) := by
  have h := List.all_eq_true.1 cmp_mir (i % 24) (List.mem_range.2 (Nat.mod_lt _ (by decide)))
  rw [decide_eq_true_eq, cmpAt_mod] at h
  exact h
theorem cmpAt_cong {i j : Nat} (h : i % 24 = j % 24) : cmpAt i = cmpAt j := by unfold cmpAt; rw [h]
section
variable (x : Mad)
theorem mir_lines : linesB (mirL (linesM x (lnM x))) = true := by
  obtain ⟨h3, h20, hlt, hend⟩ := lnM_spec x
  generalize lnM x = n at *
  have hst : st0 x < 24 := Nat.mod_lt _ (by decide)
  have hmon : ∀ i j, i < j → posM x i < posM x j := fun i j h => posM_lt x h
  refine pos_lines (24 - st0 x) (fun i => if i = 0 then 0 else 24 - posM x (n - i)) n h3 (if_pos rfl) (fun i hi => ?_) (fun i hi => ?_) ?_ _ (by rw [mirL_len, linesM_len]) (fun i hi => ?_)
  · rw [if_neg (by omega : ¬ i + 1 = 0)]
    rcases Nat.eq_zero_or_pos i with rfl | hi0
    · rw [if_pos rfl]
      have := hlt (n - 1) (by omega)
      rw [show n - (0 + 1) = n - 1 by omega]
      omega
    · rw [if_neg (by omega)]
      have h1 := posM_succ x (n - (i + 1))
      rw [show n - (i + 1) + 1 = n - i by omega] at h1
      have := hlt (n - i) (by omega)
      have := hlt (n - (i + 1)) (by omega)
      omega
  · show (if i = 0 then 0 else 24 - posM x (n - i)) < 24
    split
    · omega
    · have := hmon 0 (n - i) (by omega)
      omega
  · show 24 ≤ (if n - 1 = 0 then 0 else 24 - posM x (n - (n - 1))) + 8
    rw [if_neg (by omega), show n - (n - 1) = 1 by omega]
    have h1 := posM_succ x 0
    have : posM x 0 = 0 := rfl
    rw [Nat.zero_add] at h1
    omega
  · rw [mirL_at _ (by rw [linesM_len]; exact hi), linesM_len, linesM_at x (Nat.mod_lt _ (by omega)), ptM_cmp, cmp_mir']
    refine cmpAt_cong ?_
    show _ = (24 - st0 x + (if i = 0 then 0 else 24 - posM x (n - i))) % 24
    rcases Nat.eq_zero_or_pos i with rfl | hi0
    · rw [if_pos rfl, Nat.sub_zero, Nat.mod_self]
      have : posM x 0 = 0 := rfl
      omega
    · rw [if_neg (by omega), Nat.mod_eq_of_lt (by omega : n - i < n)]
      have := hlt (n - i) (by omega)
      omega
theorem mir_ok (hf : x.fits) : errB (mirB (madeB x)) = 0 := by
  have h := made_ok x hf
  have hl : longB (mirB (madeB x)) = longB (madeB x) := by
    unfold longB
    show (_ || (decide (20 < (mirL _).length) || decide (20 < (mirN _).length))) = _
    rw [mirL_len, mirN_len]
    rfl
  have hn : numsB (mirB (madeB x)) = numsB (madeB x) := by
    unfold numsB numsTo
    show ((mirN (madeB x).nums).all _ && decide (mirN (madeB x).nums).Nodup && decide ((mirN (madeB x).nums).length = (mirL (madeB x).lines).length)) = _
    rw [mirL_len, mirN_len, mirN_rev]
    congr 1
    rw [Bool.eq_iff_iff]
    simp only [Bool.and_eq_true, List.all_eq_true, decide_eq_true_eq, List.mem_reverse, (List.reverse_perm (madeB x).nums).nodup_iff]
  have hml : linesB (mirB (madeB x)).lines = true := mir_lines x
  have hml0 : linesB (madeB x).lines = true := made_lines x
  have hg : goodB (mirB (madeB x)) = goodB (madeB x) := by
    unfold goodB
    rw [hn, hml, hml0]
    rfl
  unfold errB at h ⊢
  rw [hl, hg]
  exact h
end
theorem mir_small {b : Brd} (h : SmallB b) : SmallB (mirB b) := ⟨h.r, by show (mirL b.lines).length ≤ _; rw [mirL_len]; exact h.l, by show (mirN b.nums).length ≤ _; rw [mirN_len]; exact h.n⟩
theorem mir_any {b : Brd} (hn : 0 < b.lines.length) (p : Pt) : (mirL b.lines).any (wireP b.wire (mirP p)) = b.lines.any (wireP b.wire p) := by
  have key : ∀ q, wireP b.wire (mirP p) (mirP q) = wireP b.wire p q := by
    intro q
    unfold wireP
    rw [mir_dot, mir_dot, mir_cross]
    congr 1
    rw [show -crossP q p * -crossP q p = crossP q p * crossP q p by rw [Int.neg_mul_neg]]
  have hget : ∀ i, i < b.lines.length → ptAt b.lines i ∈ b.lines := by
    intro i hi
    show List.getD _ _ _ ∈ _
    rw [List.getD_eq_getElem?_getD, List.getElem?_eq_getElem hi]
    exact List.getElem_mem hi
  rw [Bool.eq_iff_iff, List.any_eq_true, List.any_eq_true]
  constructor
  · rintro ⟨q, hq, h⟩
    unfold mirL at hq
    obtain ⟨i, hi, rfl⟩ := List.mem_map.1 hq
    exact ⟨_, hget _ (Nat.mod_lt _ hn), by rw [← key]; exact h⟩
  · rintro ⟨q, hq, h⟩
    obtain ⟨j, hj, rfl⟩ := List.getElem_of_mem hq
    refine ⟨mirP b.lines[j], ?_, by rw [key]; exact h⟩
    unfold mirL
    refine List.mem_map.2 ⟨(b.lines.length - j) % b.lines.length, List.mem_range.2 (Nat.mod_lt _ hn), ?_⟩
    have e : (b.lines.length - (b.lines.length - j) % b.lines.length) % b.lines.length = j := by
      rcases Nat.eq_zero_or_pos j with rfl | hj0
      · rw [Nat.sub_zero, Nat.mod_self, Nat.sub_zero, Nat.mod_self]
      · rw [Nat.mod_eq_of_lt (by omega : b.lines.length - j < b.lines.length), show b.lines.length - (b.lines.length - j) = j by omega, Nat.mod_eq_of_lt hj]
    rw [e]
    show mirP (List.getD _ _ _) = _
    rw [List.getD_eq_getElem?_getD, List.getElem?_eq_getElem hj]
    rfl
theorem mir_wire {b : Brd} (hn : 0 < b.lines.length) (p : Pt) : onWire (mirB b) (mirP p) = onWire b p := by
  unfold onWire
  have e1 : (mirB b).radii = b.radii := rfl
  have e2 : radLast (mirB b) = radLast b := rfl
  have e3 : (mirB b).wire = b.wire := rfl
  have e4 : (mirB b).lines = mirL b.lines := rfl
  have e5 : (mirB b).bull = b.bull := rfl
  rw [e1, e2, e3, e4, e5, mir_dot, mir_any hn]
theorem mir_sec {l : List Pt} (hl : linesB l = true) (hm : linesB (mirL l) = true) {p : Pt} (hp : p.nz) (hc : ∀ i, i < l.length → crossP (ptAt l i) p ≠ 0) : secB (mirL l) (mirP p) = l.length - 1 - secB l p := by
  have hpm : (mirP p).nz := by
    intro ⟨h1, h2⟩
    refine hp ⟨?_, h2⟩
    have : -p.x = 0 := h1
    omega
  obtain ⟨hs, h⟩ := sec_one hl hp
  obtain ⟨hs', h'⟩ := sec_one hm hpm
  rw [mirL_len] at hs' h'
  generalize secB l p = s at *
  have hi : l.length - 1 - s < l.length := by omega
  have e := h' (l.length - 1 - s) hi
  have e0 := h s hs
  rw [decide_eq_true rfl] at e0
  have e1 : inR (mirL l) (mirP p) (l.length - 1 - s) = true := by
    unfold inR btwP at e0 ⊢
    rw [mirL_len, mirL_at l hi, mirL_at l (Nat.mod_lt _ (by omega)), mir_cross, mir_cross]
    have a1 : (l.length - (l.length - 1 - s)) % l.length = (s + 1) % l.length := by congr 1; omega
    have a2 : (l.length - (l.length - 1 - s + 1) % l.length) % l.length = s := by
      rcases Nat.eq_zero_or_pos s with rfl | h0
      · rw [show l.length - 1 - 0 + 1 = l.length by omega, Nat.mod_self, Nat.sub_zero, Nat.mod_self]
      · rw [Nat.mod_eq_of_lt (by omega : l.length - 1 - s + 1 < l.length), show l.length - (l.length - 1 - s + 1) = s by omega, Nat.mod_eq_of_lt hs]
    rw [a1, a2]
    have c1 := hc s hs
    have c2 := hc ((s + 1) % l.length) (Nat.mod_lt _ (by omega))
    rw [if_neg c1] at e0
    rw [if_neg (by omega), Bool.and_eq_true, decide_eq_true_eq, decide_eq_true_eq]
    rw [Bool.and_eq_true, decide_eq_true_eq, decide_eq_true_eq, cross_swap p] at e0
    rw [cross_swap p]
    omega
  rw [e1] at e
  have := of_decide_eq_true e.symm
  omega
/-- In the mirror. -/
theorem mir_bed {b : Brd} (hg : GoodB b) (hl : linesB b.lines = true) (hm : linesB (mirL b.lines) = true) {p : Pt} (hc : ∀ i, i < b.lines.length → crossP (ptAt b.lines i) p ≠ 0) : bedB (mirB b) (mirP p) = bedB b p := by
  have hn := hg.ptl
  have hp : p.nz := by
    rintro ⟨h1, h2⟩
    refine hc 0 hn ?_
    unfold crossP
    rw [h1, h2, Int.mul_zero, Int.mul_zero]; rfl
  have hsec := mir_sec hl hm hp hc
  have hs := (sec_one hl hp).1
  unfold bedB
  rw [mir_wire hn, mir_dot]
  have e1 : (mirB b).eye = b.eye := rfl
  have e2 : (mirB b).bull = b.bull := rfl
  have e3 : ringOf (mirB b) (dotP p p) = ringOf b (dotP p p) := rfl
  rw [e1, e2, e3]
  congr 1
  congr 1
  congr 1
  unfold bedOf
  cases ringOf b (dotP p p) with
  | none => rfl
  | some r =>
    simp only
    congr 2
    show List.getD (mirN b.nums) (secB (mirL b.lines) (mirP p)) 0 = _
    rw [hsec]
    unfold mirN
    have hlen := hg.len
    rw [List.getD_eq_getElem?_getD, List.getElem?_map, List.getElem?_range (by omega)]
    simp only [Option.map_some, Option.getD_some]
    congr 1
    omega
end Go.Proofs.Ytlkbbcfbnbnagaa
