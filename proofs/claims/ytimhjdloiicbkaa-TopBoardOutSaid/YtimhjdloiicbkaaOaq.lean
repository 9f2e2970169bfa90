/-
  Package out, plain: a list of beds that goes from a score is a way; with more beds there are more ways, and no more darts are needed.
-/
import Derived.Test.YtimhjdloiicbkaaOan
import Derived.Test.YtimhjdloiicbkaaOub
import Derived.Test.YtimhjdloiicbkaaOui
import Derived.Test.YtimhjdloiicbkaaBpB
import Derived.Test.YtimhjdloiicbkaaOwa
import Derived.Test.YtimhjdloiicbkaaOam
import Derived.Test.YtimhjdloiicbkaaOuk
namespace Go.Proofs.Ytimhjdloiicbkaa
open Go.RowKit
theorem rgA_list (f : Nat → Nat) : (List.range 4).map (rgA f) = [rgA f 0, rgA f 1, rgA f 2, rgA f 3] := rfl
theorem radA (j : Nat) (h : j < 11) : radB (j : Int) (-(j : Int)) [64, 159, 990, 1070, 1620, 1700] = true := by
  have : ∀ j < 11, radB ((j : Nat) : Int) (-(j : Int)) [64, 159, 990, 1070, 1620, 1700] = true := by decide +kernel
  exact this j h
theorem linesA : linesB (linA 20) = true := by decide +kernel
theorem numsA : numsTo numA = true := by decide +kernel
theorem facA (f : Nat → Nat) (k : Nat) : 0 ≤ (rgA f k).factor ∧ (rgA f k).factor ≤ 4 := by
  unfold rgA
  simp only
  omega
theorem errA (f : Nat → Nat) (wire : Nat) : errB (armB f wire) = 0 := by
  have hj : ((wire : Int) % 11) = ((wire % 11 : Nat) : Int) := by omega
  have h1 : longB (armB f wire) = false := by
    unfold longB armB
    rw [rgA_list, linA_len]
    simp [numA]
  have h2 : goodB (armB f wire) = true := by
    unfold goodB ringsB numsB armB
    rw [rgA_list]
    have hf := facA f
    have hr := radA (wire % 11) (by omega)
    simp only [Bool.and_eq_true]
    refine ⟨⟨rfl, ?_, ?_, ?_⟩, linesA, numsA, ?_⟩
    · exact ins_one.2 (by omega)
    · simp only [List.any_cons, List.any_nil, Bool.or_false, Bool.not_or, Bool.and_eq_true, Bool.not_not]
      exact ⟨ins_one.2 (hf 0), ins_one.2 (hf 1), ins_one.2 (hf 2), ins_one.2 (hf 3)⟩
    · rw [hj]
      exact hr
    · rw [linA_len]
      rfl
  unfold errB
  rw [h1, h2]
  rfl
theorem smallA (f : Nat → Nat) (wire : Nat) : SmallB (armB f wire) := by
  constructor
  · unfold armB; simp
  · unfold armB; simp only; rw [linA_len]; omega
  · unfold armB numA; simp
def bedsA (f : Nat → Nat) (wire : Nat) : List Int := setL (allM (armB f wire))
theorem allA (f : Nat → Nat) (wire : Nat) : allR (armB f wire) = (bedsA f wire, 0) := by
  unfold allR bedsA
  rw [errA, if_neg (by simp)]
theorem mem_allM {b : Brd} {x : Int} : x ∈ allM b ↔ x = 125 ∨ x = 225 ∨ ∃ r ∈ b.rings, 0 < r.factor ∧ ∃ n ∈ b.nums, x = 100 * r.factor + n := by
  unfold allM allTo ringL
  rw [List.take_length, List.mem_append, List.mem_flatMap]
  constructor
  · rintro (h | ⟨r, hr, h⟩)
    · simp at h
      exact h.elim .inl fun h => .inr (.inl h)
    · split at h
      case isTrue hf =>
        obtain ⟨n, hn, e⟩ := List.mem_map.1 h
        exact .inr (.inr ⟨r, hr, hf, n, hn, e.symm⟩)
      · cases h
  · rintro (h | h | ⟨r, hr, hf, n, hn, e⟩)
    · left; simp [h]
    · left; simp [h]
    · right
      refine ⟨r, hr, ?_⟩
      rw [if_pos hf]
      exact List.mem_map.2 ⟨n, hn, e.symm⟩
theorem good_isBed {b : Brd} (hg : GoodB b) {x : Int} (h : x ∈ allM b) : isBedB x = true ∧ 0 ≤ x ∧ x < 500 := by
  rcases mem_allM.1 h with rfl | rfl | ⟨r, hr, hf, n, hn, rfl⟩
  · exact ⟨rfl, by omega, by omega⟩
  · exact ⟨rfl, by omega, by omega⟩
  · have h1 := hg.fac r hr
    have h2 := hg.num n hn
    refine ⟨?_, by omega, by omega⟩
    have e1 : fct (100 * r.factor + n) = r.factor := by
      unfold fct
      rw [Int.tdiv_eq_ediv_of_nonneg (by omega)]
      omega
    have e2 : nmb (100 * r.factor + n) = n := by
      unfold nmb
      rw [Int.tmod_eq_emod_of_nonneg (by omega)]
      omega
    unfold isBedB
    rw [e1, e2]
    simp only [Bool.or_eq_true, Bool.and_eq_true]
    exact .inr ⟨ins_one.2 (by omega), ins_one.2 (by omega)⟩
theorem bedsB_of : ∀ {l : List Int}, l.Pairwise (· < ·) → (∀ x ∈ l, isBedB x = true) → bedsB l = true
  | [], _, _ => rfl
  | [x], _, h => h x (by simp)
  | x :: y :: l, hp, h => by
    obtain ⟨h1, h2⟩ := List.pairwise_cons.1 hp
    unfold bedsB
    simp only [Bool.and_eq_true, decide_eq_true_eq]
    exact ⟨⟨h x (by simp), h1 y (by simp)⟩, bedsB_of h2 fun z hz => h z (by simp [hz])⟩
theorem setL_len {l : List Int} (h : ∀ x ∈ l, isBedB x = true) : (setL l).length ≤ 82 := by
  unfold setL
  rw [List.length_map, ← List.countP_eq_length_filter]
  have h1 : (List.range 500).countP (fun (i : Nat) => l.contains (i : Int)) ≤ (List.range 500).countP (fun (i : Nat) => isBedB (i : Int)) := by
    refine List.countP_mono_left fun i _ hi => ?_
    exact h _ (by simpa using hi)
  have h2 : (List.range 500).countP (fun (i : Nat) => isBedB (i : Int)) = 82 := by decide +kernel
  omega
theorem goodA (f : Nat → Nat) (wire : Nat) : GoodB (armB f wire) := errB_good (smallA f wire) (errA f wire)
theorem bedsA_mem {f : Nat → Nat} {wire : Nat} {x : Int} : x ∈ bedsA f wire ↔ x ∈ allM (armB f wire) := by
  unfold bedsA
  rw [setL_mem]
  exact ⟨fun h => h.2, fun h => ⟨(good_isBed (goodA f wire) h).2, h⟩⟩
theorem bedsA_asc (f : Nat → Nat) (wire : Nat) : (bedsA f wire).Pairwise (· < ·) := setL_sorted _
theorem bedsA_len (f : Nat → Nat) (wire : Nat) : 2 ≤ (bedsA f wire).length ∧ (bedsA f wire).length ≤ 82 := by
  refine ⟨?_, setL_len fun x hx => (good_isBed (goodA f wire) hx).1⟩
  have h1 : (125 : Int) ∈ bedsA f wire := bedsA_mem.2 (mem_allM.2 (.inl rfl))
  have h2 : (225 : Int) ∈ bedsA f wire := bedsA_mem.2 (mem_allM.2 (.inr (.inl rfl)))
  match h : bedsA f wire with
  | [] => rw [h] at h1; cases h1
  | [x] => rw [h] at h1 h2; simp at h1 h2; omega
  | x :: y :: l => simp
theorem rulA (f : Nat → Nat) (wire : Nat) {g darts : Int} (hg : 0 ≤ g ∧ g ≤ 2) (hd : 1 ≤ darts ∧ darts ≤ 9) : rulO (bedsA f wire) g darts = true := by
  have hl := bedsA_len f wire
  unfold rulO areB
  simp only [Bool.and_eq_true]
  refine ⟨⟨bedsB_of (bedsA_asc f wire) fun x hx => (good_isBed (goodA f wire) (bedsA_mem.1 hx)).1, ?_⟩, ?_, ?_⟩
  · exact ins_one.2 (by omega)
  · exact ins_one.2 hg
  · exact ins_one.2 hd
theorem pntA_ok {a b : Nat} : ptB (pntA a b) = true := by
  unfold ptB pntA
  refine ins_two.2 ⟨⟨?_, ?_⟩, ?_, ?_⟩ <;> simp only <;> omega
/-- The bed of a point is one of the board's, or none. -/
theorem bedOf_mem {b : Brd} (hg : GoodB b) (d : Pt) : bedB b d = 0 ∨ bedB b d ∈ allM b := by
  unfold bedB
  split
  · exact .inl rfl
  · split
    · exact .inr (mem_allM.2 (.inr (.inl rfl)))
    · split
      · exact .inr (mem_allM.2 (.inl rfl))
      · unfold ringOf
        cases h : b.rings.find? (inRing (dotP d d)) with
        | none => exact .inl rfl
        | some r =>
          have hr := List.mem_of_find?_eq_some h
          have hf := hg.fac r hr
          unfold bedOf
          simp only
          split
          · exact .inl rfl
          · have hs : secB b.lines d < b.nums.length := by
              rw [hg.len]
              exact secUp_lt _ _ _ _ hg.ptl
            refine .inr (mem_allM.2 (.inr (.inr ⟨r, hr, by omega, _, ?_, rfl⟩)))
            rw [List.getD_eq_getElem?_getD, List.getElem?_eq_getElem hs]
            exact List.getElem_mem _
def bedA (f : Nat → Nat) (wire : Nat) (a b : Nat) : Int := bedB (armB f wire) (pntA a b)
theorem bedRA (f : Nat → Nat) (wire a b : Nat) : (bedR (armB f wire) (pntA a b)).1 = bedA f wire a b ∧ (bedR (armB f wire) (pntA a b)).2.2 = 0 := by
  unfold bedR bedA
  rw [errA, if_neg (by simp), if_pos pntA_ok]
  exact ⟨rfl, rfl⟩
theorem bedA_mem (f : Nat → Nat) (wire a b : Nat) : bedA f wire a b = 0 ∨ bedA f wire a b ∈ bedsA f wire := (bedOf_mem (goodA f wire) (pntA a b)).imp id fun h => bedsA_mem.2 h
/-- With a ring that is dead there are no beds that there were not. -/
theorem bedsA_sub {f f' : Nat → Nat} {wire : Nat} (h : ∀ k < 4, f' k = 0 ∨ f' k = f k) : ∀ x ∈ bedsA f' wire, x ∈ bedsA f wire := by
  intro x hx
  refine bedsA_mem.2 (mem_allM.2 ?_)
  rcases mem_allM.1 (bedsA_mem.1 hx) with h1 | h1 | ⟨r, hr, hf, n, hn, e⟩
  · exact .inl h1
  · exact .inr (.inl h1)
  · obtain ⟨k, hk, rfl⟩ := List.mem_map.1 hr
    have hk := List.mem_range.1 hk
    have e1 : rgA f' k = rgA f k := by
      rcases h k hk with h0 | h0
      · unfold rgA at hf
        rw [h0] at hf
        simp at hf
      · unfold rgA
        rw [h0]
    exact .inr (.inr ⟨rgA f k, List.mem_map.2 ⟨k, List.mem_range.2 hk, rfl⟩, by rw [← e1]; exact hf, n, hn, by rw [← e1]; exact e⟩)
theorem bedsA_wrt {f : Nat → Nat} {wire : Nat} : ∀ x ∈ bedsA f wire, I64 x ∧ 1 ≤ wrt x ∧ wrt x ≤ 100 := (rul_wrt (rulA f wire (g := 0) (darts := 1) (by omega) (by omega))).2
end Go.Proofs.Ytimhjdloiicbkaa
namespace Go.Proofs.Ytimhjdloiicbkaa
open Go.RowKit
theorem mem_thwO {g : Int} {beds : List Int} {s : Int} {p : Int × Int} : p ∈ thwO g beds s ↔ ∃ x ∈ beds, aftB g s x = true ∧ 0 < s ∧ p = (x, s - wrt x) := by
  unfold thwO
  simp only [List.mem_map, List.mem_filter, Bool.and_eq_true, decide_eq_true_eq]
  exact ⟨fun ⟨x, ⟨h1, h2, h3⟩, h4⟩ => ⟨x, h1, h2, h3, h4.symm⟩, fun ⟨x, h1, h2, h3, h4⟩ => ⟨x, ⟨h1, h2, h3⟩, h4.symm⟩⟩
theorem aft_le {g s x : Int} (h : aftB g s x = true) : 0 ≤ s - wrt x := by
  unfold aftB at h
  split at h
  · omega
  · split at h
    · omega
    · simp at h; omega
theorem cnt_pos {l : List Int} (h : ∀ s : Nat, 0 ≤ l.getD s 0) : ∀ t : List (Int × Int), 0 < cntO l t ↔ ∃ p ∈ t, 0 < l.getD p.2.toNat 0
  | [] => by simp [cntO]
  | p :: t => by
    have ih := cnt_pos h t
    have h0 := h p.2.toNat
    have e : cntO l (p :: t) = l.getD p.2.toNat 0 + cntO l t := by unfold cntO; rw [List.map_cons, List.sum_cons]
    have hn : 0 ≤ cntO l t := by
      have : ∀ u : List (Int × Int), 0 ≤ cntO l u := by
        intro u
        induction u with
        | nil => simp [cntO]
        | cons q u ihu =>
          have := h q.2.toNat
          unfold cntO at ihu ⊢
          rw [List.map_cons, List.sum_cons]
          omega
      exact this t
    rw [e]
    constructor
    · intro hp
      by_cases h1 : 0 < l.getD p.2.toNat 0
      · exact ⟨p, by simp, h1⟩
      · obtain ⟨q, hq, h2⟩ := ih.1 (by omega)
        exact ⟨q, by simp [hq], h2⟩
    · rintro ⟨q, hq, h2⟩
      rcases List.mem_cons.1 hq with rfl | hq
      · omega
      · have := ih.2 ⟨q, hq, h2⟩
        omega
theorem rw_pos {g : Int} {beds : List Int} {most k s : Nat} (hl : beds.length ≤ 82) (hk : k + 1 ≤ 9) (hs : s ≤ most) : 0 < (rwO g beds most (k + 1)).getD s 0 ↔ ∃ p ∈ thwO g beds s, 0 < (rwO g beds most k).getD p.2.toNat 0 := by
  rw [rwO_succ hl hk hs]
  exact cnt_pos (fun i => (rwO_bnd (g := g) (most := most) hl k i (by omega)).1) _
theorem tot_pos {g : Int} {beds : List Int} {most darts s : Nat} (hl : beds.length ≤ 82) (hw : ∀ x ∈ beds, 1 ≤ wrt x) (hd : darts ≤ 9) (hs : s ≤ most) : 0 < totO (rwsO g beds most darts) s ↔ ∃ k, k < darts ∧ 0 < (rwO g beds most (k + 1)).getD s 0 := by
  have h := (allO_len (g := g) (darts := darts) hl hw hd hs).1
  constructor
  · intro hp
    have hne : 0 < (allO g beds (rwsO g beds most darts) darts s).length := by omega
    obtain ⟨a, ha⟩ := List.exists_mem_of_length_pos hne
    unfold allO at ha
    obtain ⟨k, hk, hm⟩ := List.mem_flatMap.1 ha
    have hk := List.mem_range.1 hk
    rw [rwsO_at (by omega)] at hm
    refine ⟨k, hk, ?_⟩
    by_cases hp : 0 < (rwO g beds most (k + 1)).getD s 0
    · exact hp
    · rw [if_neg hp] at hm
      cases hm
  · rintro ⟨k, hk, hp⟩
    have h1 := wyL_len (g := g) (most := most) hl hw hd (k + 1) s [] (by omega) hs
    unfold wyL at h1
    rw [Int.toNat_natCast, if_pos hp] at h1
    have h2 : 0 < (wayO g beds (rwsO g beds most darts) (k + 1) s []).length := by omega
    obtain ⟨a, ha⟩ := List.exists_mem_of_length_pos h2
    have h3 : a ∈ allO g beds (rwsO g beds most darts) darts s := by
      unfold allO
      refine List.mem_flatMap.2 ⟨k, List.mem_range.2 hk, ?_⟩
      rw [rwsO_at (by omega), if_pos hp]
      exact ha
    have := List.length_pos_of_mem h3
    omega
/-- Whether a list of beds goes from a score: nothing is bust, and the last one ends it. -/
def thrL (g : Int) : Int → List Int → Bool
  | _, [] => true
  | s, x :: l => (decide (lowA g ≤ s - wrt x) || (l.isEmpty && (decide (s - wrt x = 0) && opnO g x))) && thrL g (s - wrt x) l
def scoL (l : List Int) : Int := (l.map wrt).sum
theorem scoL_cons (x : Int) (l : List Int) : scoL (x :: l) = wrt x + scoL l := by unfold scoL; rw [List.map_cons, List.sum_cons]
theorem scoL_nonneg {l : List Int} (h : ∀ x ∈ l, 1 ≤ wrt x) : 0 ≤ scoL l := by
  induction l with
  | nil => simp [scoL]
  | cons x l ih =>
    have h1 := ih fun y hy => h y (by simp [hy])
    have h2 := h x (by simp)
    rw [scoL_cons]
    omega
theorem thr_aft {g s x : Int} {l : List Int} (hs : s = scoL (x :: l)) (h1 : ∀ y ∈ x :: l, 1 ≤ wrt y) (h : thrL g s (x :: l) = true) : aftB g s x = true ∧ 0 < s ∧ s - wrt x = scoL l ∧ thrL g (s - wrt x) l = true := by
  have h2 := scoL_nonneg fun y hy => h1 y (List.mem_cons_of_mem _ hy)
  have h3 := h1 x (by simp)
  rw [scoL_cons] at hs
  unfold thrL at h
  simp only [Bool.and_eq_true, Bool.or_eq_true, decide_eq_true_eq] at h
  obtain ⟨h, h4⟩ := h
  refine ⟨?_, by omega, by omega, h4⟩
  have hlow : (g = 0 ∧ lowA g = 1) ∨ (g ≠ 0 ∧ lowA g = 2) := by
    unfold lowA
    by_cases hg : g = 0
    · exact .inl ⟨hg, by rw [if_pos hg]⟩
    · exact .inr ⟨hg, by rw [if_neg hg]⟩
  unfold aftB
  by_cases e0 : s - wrt x = 0
  · rw [if_pos e0]
    rcases h with h | h
    · omega
    · exact h.2.2
  · rw [if_neg e0]
    by_cases e1 : s - wrt x = 1
    · rw [if_pos e1]
      rcases h with h | h
      · rcases hlow with ⟨hg, _⟩ | ⟨hg, hl⟩
        · simpa using hg
        · omega
      · omega
    · rw [if_neg e1]
      simp only [decide_eq_true_eq]
      omega
theorem thr_way {g : Int} {beds : List Int} {most : Nat} (hl : beds.length ≤ 82) (hw : ∀ x ∈ beds, 1 ≤ wrt x) : ∀ (l : List Int) (s : Nat), (∀ x ∈ l, x ∈ beds) → (s : Int) = scoL l → thrL g s l = true → l.length ≤ 9 → s ≤ most → 0 < (rwO g beds most l.length).getD s 0
  | [], s, _, hs, _, _, _ => by
    have : s = 0 := by simp [scoL] at hs; omega
    subst this
    unfold rwO
    simp
  | x :: l, s, hm, hs, ht, hlen, hmo => by
    obtain ⟨h1, h2, h3, h4⟩ := thr_aft hs (fun y hy => hw y (hm y hy)) ht
    have h5 := hw x (hm x (by simp))
    obtain ⟨q, hq⟩ := Int.eq_ofNat_of_zero_le (show 0 ≤ (s : Int) - wrt x from aft_le h1)
    rw [hq] at h3 h4
    rw [List.length_cons] at hlen ⊢
    refine (rw_pos hl (by omega) hmo).2 ⟨(x, (s : Int) - wrt x), mem_thwO.2 ⟨x, hm x (by simp), h1, h2, rfl⟩, ?_⟩
    show 0 < (rwO g beds most l.length).getD ((s : Int) - wrt x).toNat 0
    rw [hq, Int.toNat_natCast]
    exact thr_way hl hw l q (fun y hy => hm y (by simp [hy])) h3 h4 (by omega) (by omega)
/-- With more beds there are more ways. -/
theorem rw_mono {g : Int} {beds beds' : List Int} {most : Nat} (hl : beds.length ≤ 82) (hl' : beds'.length ≤ 82) (hw : ∀ x ∈ beds, 1 ≤ wrt x) (hb : ∀ x ∈ beds', x ∈ beds) : ∀ (k s : Nat), k ≤ 9 → s ≤ most → 0 < (rwO g beds' most k).getD s 0 → 0 < (rwO g beds most k).getD s 0
  | 0, _, _, _, h => h
  | k + 1, s, hk, hs, h => by
    obtain ⟨p, hp, h1⟩ := (rw_pos hl' hk hs).1 h
    obtain ⟨x, hx, h2, h3, rfl⟩ := mem_thwO.1 hp
    have h4 := hw x (hb x hx)
    have h5 := aft_le h2
    exact (rw_pos hl hk hs).2 ⟨_, mem_thwO.2 ⟨x, hb x hx, h2, h3, rfl⟩, rw_mono hl hl' hw hb k _ (by omega) (by omega) h1⟩
theorem tot_mono {g : Int} {beds beds' : List Int} {most darts s : Nat} (hl : beds.length ≤ 82) (hl' : beds'.length ≤ 82) (hw : ∀ x ∈ beds, 1 ≤ wrt x) (hb : ∀ x ∈ beds', x ∈ beds) (hd : darts ≤ 9) (hs : s ≤ most) (h : 0 < totO (rwsO g beds' most darts) s) : 0 < totO (rwsO g beds most darts) s := by
  obtain ⟨k, hk, h1⟩ := (tot_pos hl' (fun x hx => hw x (hb x hx)) hd hs).1 h
  exact (tot_pos hl hw hd hs).2 ⟨k, hk, rw_mono hl hl' hw hb (k + 1) s (by omega) hs h1⟩
theorem tot_ge {g : Int} {beds : List Int} {most darts s : Nat} (hl : beds.length ≤ 82) (hw : ∀ x ∈ beds, 1 ≤ wrt x) (hd : darts ≤ 9) (hs : s ≤ most) : 0 ≤ totO (rwsO g beds most darts) s := (allO_len (g := g) (darts := darts) hl hw hd hs).2
theorem mem_bogO {rows : List (List Int)} {k : Nat} {x : Int} : x ∈ bogO rows k ↔ ∃ s : Nat, s < k ∧ totO rows (s + 1) = 0 ∧ x = (s : Int) + 1 := by
  unfold bogO
  simp only [List.mem_map, List.mem_filter, List.mem_range, beq_iff_eq]
  exact ⟨fun ⟨s, ⟨h1, h2⟩, h3⟩ => ⟨s, h1, h2, h3.symm⟩, fun ⟨s, h1, h2, h3⟩ => ⟨s, ⟨h1, h2⟩, h3.symm⟩⟩
theorem bogO_asc (rows : List (List Int)) (k : Nat) : (bogO rows k).Pairwise (· < ·) := by
  unfold bogO
  rw [List.pairwise_map]
  refine List.Pairwise.filter _ ?_
  have := List.pairwise_lt_range (n := k)
  exact this.imp fun h => by omega
theorem bog_mono {g : Int} {beds beds' : List Int} {most darts : Nat} (hl : beds.length ≤ 82) (hl' : beds'.length ≤ 82) (hw : ∀ x ∈ beds, 1 ≤ wrt x) (hb : ∀ x ∈ beds', x ∈ beds) (hd : darts ≤ 9) {x : Int} (h : x ∈ bogO (rwsO g beds most darts) most) : x ∈ bogO (rwsO g beds' most darts) most := by
  obtain ⟨s, h1, h2, h3⟩ := mem_bogO.1 h
  refine mem_bogO.2 ⟨s, h1, ?_, h3⟩
  have h4 := tot_ge (g := g) (most := most) hl' (fun x hx => hw x (hb x hx)) hd (show s + 1 ≤ most by omega)
  have h5 := tot_mono (g := g) (most := most) (s := s + 1) hl hl' hw hb hd (by omega)
  omega
/-- The fewest darts. -/
def fewA (g : Int) (beds : List Int) (s : Nat) : Int := (fewO g beds s).getD s 0
theorem few_at {g : Int} {beds : List Int} {s : Nat} : ∀ m, s ≤ m → (fewO g beds m).getD s 0 = fewA g beds s
  | 0, h => by obtain rfl : s = 0 := by omega
               rfl
  | m + 1, h => by
    by_cases e : s = m + 1
    · rw [e]; rfl
    · have h1 := few_at (g := g) (beds := beds) m (show s ≤ m by omega)
      have h2 := fewO_len g beds m
      rw [← h1, fewO, List.getD_eq_getElem?_getD, List.getElem?_append_left (by omega), ← List.getD_eq_getElem?_getD]
theorem few_succ (g : Int) (beds : List Int) (s : Nat) : fewA g beds (s + 1) = fewB (fewO g beds s) (thwO g beds ((s : Int) + 1)) (-1) := by
  have h2 := fewO_len g beds s
  unfold fewA
  rw [fewO, List.getD_eq_getElem?_getD, List.getElem?_append_right (by omega), h2]
  simp
theorem fewB_cons (l : List Int) (p : Int × Int) (t : List (Int × Int)) (b : Int) : fewB l (p :: t) b = fewB l t (if l.getD p.2.toNat 0 ≠ -1 ∧ (b = -1 ∨ l.getD p.2.toNat 0 + 1 < b) then l.getD p.2.toNat 0 + 1 else b) := rfl
theorem fewB_keep {l : List Int} {m : Int} : ∀ (t : List (Int × Int)) (b : Int), (∀ p ∈ t, -1 ≤ l.getD p.2.toNat 0) → b ≠ -1 → b ≤ m → fewB l t b ≠ -1 ∧ fewB l t b ≤ m
  | [], _, _, h1, h2 => ⟨h1, h2⟩
  | p :: t, b, h, h1, h2 => by
    have h0 := h p (by simp)
    rw [fewB_cons]
    refine fewB_keep t _ (fun q hq => h q (by simp [hq])) ?_ ?_
    · split <;> omega
    · split <;> omega
theorem fewB_le {l : List Int} : ∀ (t : List (Int × Int)) (b : Int) (p : Int × Int), (∀ q ∈ t, -1 ≤ l.getD q.2.toNat 0) → p ∈ t → l.getD p.2.toNat 0 ≠ -1 → fewB l t b ≠ -1 ∧ fewB l t b ≤ l.getD p.2.toNat 0 + 1
  | [], _, _, _, hp, _ => by cases hp
  | q :: t, b, p, h, hp, h1 => by
    have h0 := h q (by simp)
    rw [fewB_cons]
    rcases List.mem_cons.1 hp with rfl | hp
    · refine fewB_keep t _ (fun q hq => h q (by simp [hq])) ?_ ?_
      · split <;> omega
      · split <;> omega
    · exact fewB_le t _ p (fun q hq => h q (by simp [hq])) hp h1
theorem fewB_from {l : List Int} : ∀ (t : List (Int × Int)) (b : Int), (fewB l t b = b) ∨ ∃ p ∈ t, l.getD p.2.toNat 0 ≠ -1 ∧ fewB l t b = l.getD p.2.toNat 0 + 1
  | [], _ => .inl rfl
  | q :: t, b => by
    rw [fewB_cons]
    rcases fewB_from t (if l.getD q.2.toNat 0 ≠ -1 ∧ (b = -1 ∨ l.getD q.2.toNat 0 + 1 < b) then l.getD q.2.toNat 0 + 1 else b) with h | ⟨p, hp, h1, h2⟩
    · rw [h]
      split
      case isTrue hc => exact .inr ⟨q, by simp, hc.1, rfl⟩
      · exact .inl rfl
    · exact .inr ⟨p, by simp [hp], h1, h2⟩
theorem few_ge (g : Int) (beds : List Int) (hw : ∀ x ∈ beds, 1 ≤ wrt x) : ∀ s, -1 ≤ fewA g beds s ∧ (0 < s → fewA g beds s ≠ 0) := by
  intro s
  induction s using Nat.strongRecOn with
  | ind s ih =>
    cases s with
    | zero => exact ⟨by show (-1 : Int) ≤ 0; omega, fun h => by omega⟩
    | succ s =>
      rw [few_succ]
      rcases fewB_from (l := fewO g beds s) (thwO g beds ((s : Int) + 1)) (-1) with h | ⟨p, hp, h1, h2⟩
      · rw [h]; omega
      · obtain ⟨x, hx, h3, h4, rfl⟩ := mem_thwO.1 hp
        have h5 := aft_le h3
        have h6 := hw x hx
        obtain ⟨q, hq⟩ := Int.eq_ofNat_of_zero_le h5
        rw [h2]
        simp only [hq, Int.toNat_natCast] at h1 ⊢
        rw [few_at s (by omega)] at h1 ⊢
        have := (ih q (by omega)).1
        omega
theorem few_row {g : Int} {beds : List Int} (hw : ∀ x ∈ beds, 1 ≤ wrt x) (s : Nat) : ∀ p ∈ thwO g beds ((s : Int) + 1), ∃ q : Nat, q ≤ s ∧ p.2 = (q : Int) ∧ (fewO g beds s).getD p.2.toNat 0 = fewA g beds q := by
  intro p hp
  obtain ⟨x, hx, h3, h4, rfl⟩ := mem_thwO.1 hp
  have h5 := aft_le h3
  have h6 := hw x hx
  obtain ⟨q, hq⟩ := Int.eq_ofNat_of_zero_le h5
  refine ⟨q, by omega, hq, ?_⟩
  simp only [hq, Int.toNat_natCast]
  exact few_at s (by omega)
theorem thr_few {g : Int} {beds : List Int} (hw : ∀ x ∈ beds, 1 ≤ wrt x) : ∀ (l : List Int) (s : Nat), (∀ x ∈ l, x ∈ beds) → (s : Int) = scoL l → thrL g s l = true → fewA g beds s ≠ -1 ∧ fewA g beds s ≤ l.length
  | [], s, _, hs, _ => by
    have : s = 0 := by simp [scoL] at hs; omega
    subst this
    exact ⟨by show (0 : Int) ≠ -1; omega, by show (0 : Int) ≤ 0; omega⟩
  | x :: l, s, hm, hs, ht => by
    obtain ⟨h1, h2, h3, h4⟩ := thr_aft hs (fun y hy => hw y (hm y hy)) ht
    have h5 := hw x (hm x (by simp))
    obtain ⟨q, hq⟩ := Int.eq_ofNat_of_zero_le (show 0 ≤ (s : Int) - wrt x from aft_le h1)
    rw [hq] at h3 h4
    obtain ⟨h6, h7⟩ := thr_few hw l q (fun y hy => hm y (by simp [hy])) h3 h4
    obtain ⟨n, rfl⟩ : ∃ n, s = n + 1 := ⟨s - 1, by omega⟩
    rw [few_succ]
    have hp : ((x, ((n + 1 : Nat) : Int) - wrt x) : Int × Int) ∈ thwO g beds ((n : Int) + 1) := mem_thwO.2 ⟨x, hm x (by simp), by push_cast at h1; exact h1, by omega, by push_cast; rfl⟩
    have hrow := few_row (g := g) hw n
    obtain ⟨q', hq1, hq2, hq3⟩ := hrow _ hp
    have e : q' = q := by simp only at hq2; omega
    subst e
    obtain ⟨k1, k2⟩ := fewB_le (l := fewO g beds n) (thwO g beds ((n : Int) + 1)) (-1) _ (fun r hr => by obtain ⟨t, -, -, h⟩ := hrow r hr; rw [h]; exact (few_ge g beds hw t).1) hp (by rw [hq3]; exact h6)
    rw [hq3] at k2
    rw [List.length_cons]
    push_cast
    exact ⟨k1, by omega⟩
theorem few_mono {g : Int} {beds beds' : List Int} (hw : ∀ x ∈ beds, 1 ≤ wrt x) (hb : ∀ x ∈ beds', x ∈ beds) : ∀ s, fewA g beds' s ≠ -1 → fewA g beds s ≠ -1 ∧ fewA g beds s ≤ fewA g beds' s := by
  intro s
  induction s using Nat.strongRecOn with
  | ind s ih =>
    intro h
    cases s with
    | zero => exact ⟨h, Int.le_refl _⟩
    | succ s =>
      rw [few_succ] at h ⊢
      rcases fewB_from (l := fewO g beds' s) (thwO g beds' ((s : Int) + 1)) (-1) with h0 | ⟨p, hp, h1, h2⟩
      · exact absurd h0 h
      · obtain ⟨q, hq1, hq2, hq3⟩ := few_row (fun x hx => hw x (hb x hx)) s p hp
        have hp' : p ∈ thwO g beds ((s : Int) + 1) := by
          obtain ⟨x, hx, h3, h4, rfl⟩ := mem_thwO.1 hp
          exact mem_thwO.2 ⟨x, hb x hx, h3, h4, rfl⟩
        have hrow := few_row (g := g) hw s
        obtain ⟨q', hr1, hr2, hr3⟩ := hrow p hp'
        have e : q' = q := by omega
        subst e
        rw [hq3] at h1
        obtain ⟨i1, i2⟩ := ih q' (by omega) h1
        obtain ⟨k1, k2⟩ := fewB_le (l := fewO g beds s) (thwO g beds ((s : Int) + 1)) (-1) p (fun r hr => by obtain ⟨t, -, -, h⟩ := hrow r hr; rw [h]; exact (few_ge g beds hw t).1) hp' (by rw [hr3]; exact i1)
        refine ⟨k1, ?_⟩
        rw [few_succ, h2, hq3]
        rw [hr3] at k2
        omega
end Go.Proofs.Ytimhjdloiicbkaa
