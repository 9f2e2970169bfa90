/-
  TopTurnedOff, plain: a dart is as good on the board that is turned; who has the greatest worth has the least rank.
-/
import Derived.Test.YtpifdeglhalefaaOap
import Derived.Test.YtpifdeglhalefaaOfi
import Derived.Test.YtpifdeglhalefaaBoX
namespace Go.Proofs.Ytpifdeglhalefaa
open Go.RowKit
/-- What kind of bed it is. -/
def clsB (x : Int) : Nat := if x = 225 then 0 else if x = 125 then 1 else if x = 0 then 2 else 3
def turnA (f : Nat → Nat) (k : Nat) : Brd := ⟨64, 159, (List.range 4).map (rgA f), linA 20, turnL numA k, 0⟩
theorem numsT (k : Nat) (h : k < 20) : numsTo (turnL numA k) = true := by
  have : ∀ k < 20, numsTo (turnL numA k) = true := by decide +kernel
  exact this k h
theorem turnL_len' (k : Nat) (h : k < 20) : (turnL numA k).length = 20 := by
  have : ∀ k < 20, (turnL numA k).length = 20 := by decide +kernel
  exact this k h
theorem errT (f : Nat → Nat) (k : Nat) (h : k < 20) : errB (turnA f k) = 0 := by
  have hl := turnL_len' k h
  have h1 : longB (turnA f k) = false := by
    unfold longB turnA
    rw [rgA_list]
    simp only [linA_len, hl]
    simp
  have h2 : goodB (turnA f k) = true := by
    unfold goodB ringsB numsB turnA
    rw [rgA_list]
    have hf := facA f
    have hr := radA 0 (by omega)
    simp only [Bool.and_eq_true]
    refine ⟨⟨rfl, ?_, ?_, ?_⟩, linesA, numsT k h, ?_⟩
    · exact ins_one.2 (by omega)
    · simp only [List.any_cons, List.any_nil, Bool.or_false, Bool.not_or, Bool.and_eq_true, Bool.not_not]
      exact ⟨ins_one.2 (hf 0), ins_one.2 (hf 1), ins_one.2 (hf 2), ins_one.2 (hf 3)⟩
    · exact hr
    · rw [linA_len, hl]
      rfl
  unfold errB
  rw [h1, h2]
  rfl
theorem smallT (f : Nat → Nat) (k : Nat) (h : k < 20) : SmallB (turnA f k) := by
  have hl := turnL_len' k h
  constructor
  · unfold turnA; simp
  · unfold turnA; simp only; rw [linA_len]; omega
  · unfold turnA; simp only; rw [hl]; omega
theorem turnRA (f : Nat → Nat) (k : Nat) (h : k < 20) : turnR (armB f 0) (k : Int) = (turnA f k, 0) := by
  unfold turnR
  rw [errA, if_neg (by simp), if_pos]
  · rw [Int.toNat_natCast]
    rfl
  · refine ins_one.2 ?_
    have : (armB f 0).nums.length = 20 := rfl
    rw [this]
    omega
theorem cls_of {b : Brd} (hg : GoodB b) (d : Pt) (r : Option Rg) (hr : ∀ x, r = some x → x ∈ b.rings) : bedOf b d r = 0 ∧ (∀ x, r = some x → x.factor = 0) ∨ ∃ x n, r = some x ∧ x.factor ≠ 0 ∧ 1 ≤ n ∧ n ≤ 20 ∧ bedOf b d r = 100 * x.factor + n ∧ 1 ≤ x.factor ∧ x.factor ≤ 4 := by
  cases r with
  | none => exact .inl ⟨rfl, fun x e => by cases e⟩
  | some x =>
    have hf := hg.fac x (hr x rfl)
    unfold bedOf
    simp only
    by_cases h0 : x.factor = 0
    · exact .inl ⟨if_pos h0, fun y e => by cases e; exact h0⟩
    · have hs : secB b.lines d < b.nums.length := by
        rw [hg.len]
        exact secUp_lt _ _ _ _ hg.ptl
      have hn := hg.num (b.nums.getD (secB b.lines d) 0) (by
        rw [List.getD_eq_getElem?_getD, List.getElem?_eq_getElem hs]
        exact List.getElem_mem _)
      exact .inr ⟨x, _, rfl, h0, hn.1, hn.2, if_neg h0, by omega, hf.2⟩
/-- A bed on a valid board is one, or a miss. -/
theorem bed_valid {b : Brd} (hg : GoodB b) (d : Pt) : validB (bedB b d) = true ∧ I64 (bedB b d) := by
  unfold bedB
  split
  · exact ⟨rfl, by constructor <;> omega⟩
  · split
    · exact ⟨rfl, by constructor <;> omega⟩
    · split
      · exact ⟨rfl, by constructor <;> omega⟩
      · rcases cls_of hg d (ringOf b (dotP d d)) (fun x e => List.mem_of_find?_eq_some e) with ⟨h, -⟩ | ⟨x, n, h1, h2, h3, h4, h5, h6, h7⟩
        · rw [h]; exact ⟨rfl, by constructor <;> omega⟩
        · rw [h5]
          have e1 : fct (100 * x.factor + n) = x.factor := by
            unfold fct
            rw [Int.tdiv_eq_ediv_of_nonneg (by omega)]
            omega
          have e2 : nmb (100 * x.factor + n) = n := by
            unfold nmb
            rw [Int.tmod_eq_emod_of_nonneg (by omega)]
            omega
          refine ⟨?_, by constructor <;> omega⟩
          unfold validB
          rw [e1, e2]
          simp only [Bool.or_eq_true, Bool.and_eq_true]
          exact .inr ⟨ins_one.2 (by omega), ins_one.2 (by omega)⟩
/-- On two boards that differ in their numbers alone the bed is of one kind. -/
theorem cls_turn {b t : Brd} (hb : GoodB b) (ht : GoodB t) (e1 : b.eye = t.eye) (e2 : b.bull = t.bull) (e3 : b.rings = t.rings) (e4 : b.lines = t.lines) (e5 : b.wire = t.wire) (d : Pt) : clsB (bedB t d) = clsB (bedB b d) := by
  have hw : onWire t d = onWire b d := by unfold onWire radLast Brd.radii; rw [e1, e2, e3, e4, e5]
  have hr : ringOf t (dotP d d) = ringOf b (dotP d d) := by unfold ringOf; rw [e3]
  unfold bedB
  rw [hw, hr, e1, e2]
  split
  · rfl
  · split
    · rfl
    · split
      · rfl
      · rcases cls_of hb d (ringOf b (dotP d d)) (fun x e => List.mem_of_find?_eq_some e) with ⟨h, h'⟩ | ⟨x, n, h1, h2, h3, h4, h5, h6, h7⟩
        · rcases cls_of ht d (ringOf b (dotP d d)) (fun x e => by rw [← e3]; exact List.mem_of_find?_eq_some e) with ⟨k, -⟩ | ⟨y, m, k1, k2, -⟩
          · rw [h, k]
          · exact absurd (h' y k1) k2
        · rcases cls_of ht d (ringOf b (dotP d d)) (fun x e => by rw [← e3]; exact List.mem_of_find?_eq_some e) with ⟨-, k⟩ | ⟨y, m, k1, k2, k3, k4, k5, k6, k7⟩
          · exact absurd (k x h1) h2
          · rw [h5, k5]
            unfold clsB
            rw [if_neg (by omega), if_neg (by omega), if_neg (by omega), if_neg (by omega), if_neg (by omega), if_neg (by omega)]
/-- What a dart is worth: the greater, the less its rank is. -/
def worO (o : Toss) : Int := if o.bed = 225 then 30000 else if o.bed = 125 then 20000 else if o.bed = 0 then -1 else 10000 - o.far
def phiO (r : Int) : Int := if r = -2 then 30000 else if r = -1 then 20000 else 10000 - r
theorem wor_rank {o : Toss} (h : 0 ≤ o.far ∧ o.far ≤ 10000) : worO o = phiO o.rank := by
  unfold worO phiO Toss.rank
  by_cases h1 : o.bed = 225
  · simp [h1]
  · by_cases h2 : o.bed = 125
    · simp [h2]
    · by_cases h3 : o.bed = 0
      · simp [h3]
      · simp only [h1, h2, h3, if_false]
        rw [if_neg (by omega), if_neg (by omega)]
theorem rank_in {o : Toss} (h : 0 ≤ o.far ∧ o.far ≤ 10000) : -2 ≤ o.rank ∧ o.rank ≤ 10001 := by
  unfold Toss.rank
  split
  · omega
  · split
    · omega
    · split <;> omega
theorem phi_lt {r s : Int} (hr : -2 ≤ r ∧ r ≤ 10001) (hs : -2 ≤ s ∧ s ≤ 10001) : phiO r ≤ phiO s ↔ s ≤ r := by
  unfold phiO
  by_cases h1 : r = -2 <;> by_cases h2 : r = -1 <;> by_cases h3 : s = -2 <;> by_cases h4 : s = -1 <;> simp only [h1, h2, h3, h4, if_true, if_false] <;> first | omega | (constructor <;> intro <;> omega)
/-- The greatest worth so far. -/
def maxO (l : List Toss) : Int := l.foldl (fun m o => max m (worO o)) (-2)
theorem maxO_snoc (l : List Toss) (o : Toss) : maxO (l ++ [o]) = max (maxO l) (worO o) := by unfold maxO; rw [List.foldl_append]; rfl
theorem maxO_ge : ∀ (l : List Toss) (m : Int), m ≤ l.foldl (fun m o => max m (worO o)) m ∧ ∀ o ∈ l, worO o ≤ l.foldl (fun m o => max m (worO o)) m
  | [], m => ⟨Int.le_refl _, fun o h => by cases h⟩
  | x :: l, m => by
    obtain ⟨h1, h2⟩ := maxO_ge l (max m (worO x))
    rw [List.foldl_cons]
    refine ⟨by omega, fun o ho => ?_⟩
    rcases List.mem_cons.1 ho with rfl | ho
    · omega
    · exact h2 o ho
theorem maxO_in : ∀ (l : List Toss) (m : Int), l.foldl (fun m o => max m (worO o)) m = m ∨ ∃ o ∈ l, l.foldl (fun m o => max m (worO o)) m = worO o
  | [], _ => .inl rfl
  | x :: l, m => by
    rw [List.foldl_cons]
    rcases maxO_in l (max m (worO x)) with h | ⟨o, ho, h⟩
    · rw [h]
      by_cases hm : m ≤ worO x
      · exact .inr ⟨x, by simp, by omega⟩
      · exact .inl (by omega)
    · exact .inr ⟨o, by simp [ho], h⟩
theorem minT_le2 : ∀ (l : List Toss) (m : Toss), (minT m l).rank ≤ m.rank ∧ ∀ o ∈ l, (minT m l).rank ≤ o.rank
  | [], m => ⟨Int.le_refl _, fun o h => by cases h⟩
  | x :: l, m => by
    unfold minT
    obtain ⟨h1, h2⟩ := minT_le2 l (if x.rank < m.rank then x else m)
    by_cases hx : x.rank < m.rank
    · rw [if_pos hx] at h1 h2 ⊢
      refine ⟨by omega, fun o ho => ?_⟩
      rcases List.mem_cons.1 ho with rfl | ho
      · exact h1
      · exact h2 o ho
    · rw [if_neg hx] at h1 h2 ⊢
      refine ⟨h1, fun o ho => ?_⟩
      rcases List.mem_cons.1 ho with rfl | ho
      · omega
      · exact h2 o ho
theorem leastT_le2 {l : List Toss} : ∀ o ∈ l, leastT l ≤ o.rank := by
  cases l with
  | nil => intro o h; cases h
  | cons x t =>
    intro o ho
    obtain ⟨h1, h2⟩ := minT_le2 t x
    show (minT x t).rank ≤ o.rank
    rcases List.mem_cons.1 ho with rfl | ho
    · exact h1
    · exact h2 o ho
/-- Who has the greatest worth is who has the least rank. -/
theorem max_least {l : List Toss} (h : ∀ o ∈ l, 0 ≤ o.far ∧ o.far ≤ 10000) {o : Toss} (ho : o ∈ l) : worO o = maxO l ↔ o.rank = leastT l := by
  obtain ⟨m, hm, hl⟩ := leastT_attained (List.length_pos_of_mem ho)
  have h1 := leastT_le2 o ho
  obtain ⟨-, h2⟩ := maxO_ge l (-2)
  have hmo := h2 m hm
  have hoo := h2 o ho
  have e1 := wor_rank (h o ho)
  have e2 := wor_rank (h m hm)
  have r1 := rank_in (h o ho)
  have r2 := rank_in (h m hm)
  have hmax : maxO l = phiO (leastT l) := by
    rcases maxO_in l (-2) with h3 | ⟨x, hx, h3⟩
    · exfalso
      unfold phiO at e2
      change worO m ≤ maxO l at hmo
      change maxO l = -2 at h3
      rw [h3, e2] at hmo
      split at hmo
      · omega
      · split at hmo <;> omega
    · have e3 := wor_rank (h x hx)
      have r3 := rank_in (h x hx)
      have h4 := leastT_le2 x hx
      change maxO l = worO x at h3
      change worO m ≤ maxO l at hmo
      have h5 : phiO m.rank ≤ phiO x.rank := by rw [← e2, ← e3, ← h3]; exact hmo
      have h6 := (phi_lt r2 r3).1 h5
      have : x.rank = leastT l := by omega
      rw [h3, e3, this]
  rw [hmax, e1]
  rw [hl] at r2
  constructor
  · intro e
    have := (phi_lt r2 r1).1 (by omega)
    omega
  · intro e
    rw [e]
/-- Two rounds that are as good dart by dart. -/
theorem offW_same : ∀ (rs ts : List (List Toss)) (inn : List Int), rs.map (fun r => r.map Toss.rank) = ts.map (fun r => r.map Toss.rank) → (∀ r ∈ rs, ∀ o ∈ r, o.ok = true) → (∀ r ∈ ts, ∀ o ∈ r, o.ok = true) → offW inn rs = offW inn ts
  | [], [], _, _, _, _ => rfl
  | [], _ :: _, _, h, _, _ => by cases h
  | _ :: _, [], _, h, _, _ => by cases h
  | r :: rs, t :: ts, inn, h, hr, ht => by
    rw [List.map_cons, List.map_cons] at h
    injection h with h1 h2
    have hlen : r.length = t.length := by simpa using congrArg List.length h1
    have hb : ∀ (ps : List Int) (x y : List Toss) (k : Int), x.map Toss.rank = y.map Toss.rank → bestW k ps x = bestW k ps y := by
      intro ps
      induction ps with
      | nil => intro x y k _; cases x <;> cases y <;> rfl
      | cons p ps ih =>
        intro x y k e
        cases x with
        | nil => cases y with
          | nil => rfl
          | cons z y => cases e
        | cons z x => cases y with
          | nil => cases e
          | cons u y =>
            rw [List.map_cons, List.map_cons] at e
            injection e with e1 e2
            unfold bestW
            rw [e1, ih x y k e2]
    have hmn : ∀ (x y : List Toss) (a c : Toss), x.map Toss.rank = y.map Toss.rank → a.rank = c.rank → (minT a x).rank = (minT c y).rank := by
      intro x
      induction x with
      | nil => intro y a c e e2; cases y with
        | nil => exact e2
        | cons z y => cases e
      | cons z x ih => intro y a c e e2; cases y with
        | nil => cases e
        | cons u y =>
          rw [List.map_cons, List.map_cons] at e
          injection e with e1 e3
          unfold minT
          refine ih y _ _ e3 ?_
          rw [e1, e2]
          split <;> assumption
    have hle : leastT r = leastT t := by
      cases r with
      | nil => cases t with
        | nil => rfl
        | cons u y => cases h1
      | cons z x => cases t with
        | nil => cases h1
        | cons u y =>
          rw [List.map_cons, List.map_cons] at h1
          injection h1 with e1 e3
          exact hmn x y z u e3 e1
    have ha : (r.any fun o => !o.ok) = (t.any fun o => !o.ok) := by
      rw [List.any_eq_false.2 (fun o ho => by simp [hr r (by simp) o ho]), List.any_eq_false.2 (fun o ho => by simp [ht t (by simp) o ho])]
    unfold offW
    rw [hlen, ha, hle, hb inn r t _ h1]
    split
    · rfl
    · split
      · rfl
      · split
        · rfl
        · exact offW_same rs ts _ h2 (fun x hx => hr x (by simp [hx])) (fun x hx => ht x (by simp [hx]))
theorem offW_snoc : ∀ (rs : List (List Toss)) (inn rest : List Int) (r : List Toss), offW inn rs = .inl rest → rest.length ≠ 1 → r.length = rest.length → (∀ o ∈ r, o.ok = true) → offW inn (rs ++ [r]) = .inl (bestW (leastT r) rest r)
  | [], inn, rest, r, h, h1, h2, h3 => by
    have e : inn = rest := by
      unfold offW at h
      injection h
    subst e
    show offW inn [r] = _
    unfold offW
    rw [if_neg h1, if_neg (by omega), if_neg (by simpa using h3)]
    rfl
  | x :: rs, inn, rest, r, h, h1, h2, h3 => by
    rw [List.cons_append]
    unfold offW at h ⊢
    split at h
    · cases h
    · split at h
      · cases h
      · split at h
        · cases h
        · rename_i k1 k2 k3
          rw [if_neg k1, if_neg k2, if_neg k3]
          exact offW_snoc rs _ rest r h h1 h2 h3
theorem bestW_snoc2 (r : Int) (p : Int) (o : Toss) : ∀ (ps : List Int) (l : List Toss), ps.length = l.length → bestW r (ps ++ [p]) (l ++ [o]) = bestW r ps l ++ (if o.rank = r then [p] else [])
  | [], [], _ => by simp only [List.nil_append, bestW]
  | [], _ :: _, h => by cases h
  | _ :: _, [], h => by cases h
  | q :: ps, x :: l, h => by
    have ih := bestW_snoc2 r p o ps l (by simpa using h)
    simp only [List.cons_append, bestW, ih]
    split <;> rfl
end Go.Proofs.Ytpifdeglhalefaa
