/-
  MeanMany, plain: totals are sums; legs that are cut off after three visits.
-/
import Derived.Test.YtmopadnkjlodnaaNtj
namespace Go.Proofs.Ytmopadnkjlodnaa
open Go.RowKit
theorem w64_l (a b : Int) : wrap64 (wrap64 a + b) = wrap64 (a + b) := by unfold wrap64; omega
theorem w64_r (a b : Int) : wrap64 (a + wrap64 b) = wrap64 (a + b) := by unfold wrap64; omega
theorem w64_w (a : Int) : wrap64 (wrap64 a) = wrap64 a := by unfold wrap64; omega
theorem w64_as (a b c : Int) : wrap64 (wrap64 (a + b) + c) = wrap64 (a + wrap64 (b + c)) := by rw [w64_l, w64_r, Int.add_assoc]
/-- Two totals, added. -/
def addW (a b : Tot) : Tot := ⟨wrap64 (a.legs + b.legs), wrap64 (a.won + b.won), wrap64 (a.visits + b.visits), wrap64 (a.points + b.points), ⟨wrap64 (a.darts.lo + b.darts.lo), wrap64 (a.darts.hi + b.darts.hi)⟩, ⟨wrap64 (a.tried.lo + b.tried.lo), wrap64 (a.tried.hi + b.tried.hi)⟩, wrap64 (a.tons + b.tons), wrap64 (a.highs + b.highs), wrap64 (a.tops + b.tops), max a.best b.best⟩
theorem addW_assoc (a b c : Tot) : addW (addW a b) c = addW a (addW b c) := by
  unfold addW
  dsimp only
  simp only [w64_as, Int.max_assoc]
theorem addW_comm (a b : Tot) : addW a b = addW b a := by
  unfold addW
  rw [Int.add_comm a.legs, Int.add_comm a.won, Int.add_comm a.visits, Int.add_comm a.points, Int.add_comm a.darts.lo, Int.add_comm a.darts.hi, Int.add_comm a.tried.lo, Int.add_comm a.tried.hi, Int.add_comm a.tons, Int.add_comm a.highs, Int.add_comm a.tops, Int.max_comm a.best]
/-- Totals as the machine holds them. -/
structure InT (t : Tot) : Prop where
  legs : wrap64 t.legs = t.legs
  won : wrap64 t.won = t.won
  vis : wrap64 t.visits = t.visits
  pts : wrap64 t.points = t.points
  dl : wrap64 t.darts.lo = t.darts.lo
  dh : wrap64 t.darts.hi = t.darts.hi
  tl : wrap64 t.tried.lo = t.tried.lo
  th : wrap64 t.tried.hi = t.tried.hi
  tons : wrap64 t.tons = t.tons
  highs : wrap64 t.highs = t.highs
  tops : wrap64 t.tops = t.tops
  best : 0 ≤ t.best
theorem w64_0 : wrap64 0 = 0 := by unfold wrap64; omega
theorem InT.zero : InT tot0 := ⟨w64_0, w64_0, w64_0, w64_0, w64_0, w64_0, w64_0, w64_0, w64_0, w64_0, w64_0, Int.le_refl _⟩
theorem InT.add {a : Tot} (h : InT a) (b : Tot) : InT (addW a b) :=
  ⟨w64_w _, w64_w _, w64_w _, w64_w _, w64_w _, w64_w _, w64_w _, w64_w _, w64_w _, w64_w _, w64_w _, by
    have := h.best
    show 0 ≤ max a.best b.best
    omega⟩
theorem addW_zero {t : Tot} (h : InT t) : addW t tot0 = t := by
  obtain ⟨h1, h2, h3, h4, h5, h6, h7, h8, h9, h10, h11, h12⟩ := h
  obtain ⟨a, b, c, d, ⟨e, f⟩, ⟨g, i⟩, j, k, l, m⟩ := t
  unfold addW tot0
  dsimp only at *
  rw [Int.add_zero, Int.add_zero, Int.add_zero, Int.add_zero, Int.add_zero, Int.add_zero, Int.add_zero, Int.add_zero, Int.add_zero, Int.add_zero, Int.add_zero, h1, h2, h3, h4, h5, h6, h7, h8, h9, h10, h11, Int.max_eq_left h12]
theorem zero_addW {t : Tot} (h : InT t) : addW tot0 t = t := by rw [addW_comm, addW_zero h]
theorem sumS_add {t : Tot} (h : InT t) (x : Ex) (g : Gl) : sumS t x g = addW t (sumS tot0 x g) := by
  obtain ⟨h1, h2, h3, h4, h5, h6, h7, h8, h9, h10, h11, h12⟩ := h
  obtain ⟨a, b, c, d, ⟨e, f⟩, ⟨g1, i⟩, j, k, l, m⟩ := t
  dsimp only at *
  have q : ∀ (p : Prop) [Decidable p] (y : Int), wrap64 y = y → (if p then wrap64 (y + 1) else y) = wrap64 (y + (if p then wrap64 (0 + 1) else 0)) := by
    intro p _ y hy
    split
    · rw [w64_r, Int.zero_add]
    · rw [Int.add_zero, hy]
  have qb : (if g.wins = true then max m g.score else m) = max m (if g.wins = true then max 0 g.score else 0) := by
    split <;> omega
  unfold sumS addW tot0
  dsimp only
  rw [q _ b h2, q _ j h9, q _ k h10, q _ l h11, qb, Int.add_zero, h1]
  simp only [w64_r, Int.zero_add]
theorem InT.sum {t : Tot} (h : InT t) (x : Ex) (g : Gl) : InT (sumS t x g) := by rw [sumS_add h]; exact h.add _
theorem legT_add (most : Int) (l : Leg) (xs : List Ex) {t : Tot} (h : InT t) : ∀ k, legT most l xs t k = addW t (legT most l xs tot0 k) ∧ InT (legT most l xs t k)
  | 0 => ⟨(addW_zero h).symm, h⟩
  | k + 1 => by
    obtain ⟨h1, h2⟩ := legT_add most l xs h k
    have h3 := (legT_add most l xs InT.zero k).2
    unfold legT
    split
    · refine ⟨?_, h2.sum _ _⟩
      rw [sumS_add h2, h1, sumS_add h3, addW_assoc]
    · exact ⟨h1, h2⟩
/-- What a leg comes to. -/
def dT (most : Int) (l : Leg) : Tot := addW (oneMore tot0) (legT most l (vstF l).1 tot0 l.scores.length)
def sumT (most : Int) (ls : List Leg) : Tot := ls.foldr (fun l s => addW (dT most l) s) tot0
theorem InT.one : InT (oneMore tot0) := ⟨w64_w _, w64_0, w64_0, w64_0, w64_0, w64_0, w64_0, w64_0, w64_0, w64_0, w64_0, Int.le_refl _⟩
theorem InT.dT (most : Int) (l : Leg) : InT (dT most l) := InT.one.add _
theorem InT.sumT (most : Int) : ∀ ls : List Leg, InT (sumT most ls)
  | [] => InT.zero
  | l :: _ => (InT.dT most l).add _
theorem oneMore_add {t : Tot} (h : InT t) : oneMore t = addW t (oneMore tot0) := by
  obtain ⟨h1, h2, h3, h4, h5, h6, h7, h8, h9, h10, h11, h12⟩ := h
  obtain ⟨a, b, c, d, ⟨e, f⟩, ⟨g, i⟩, j, k, l, m⟩ := t
  unfold addW oneMore tot0
  dsimp only at *
  rw [Int.add_zero, Int.add_zero, Int.add_zero, Int.add_zero, Int.add_zero, Int.add_zero, Int.add_zero, Int.add_zero, Int.add_zero, Int.add_zero, h2, h3, h4, h5, h6, h7, h8, h9, h10, h11, Int.max_eq_left h12, w64_r, Int.zero_add]
theorem ofG_all (most : Int) : ∀ (ls : List Leg) (i : Nat) {t : Tot}, InT t → (∀ l ∈ ls, (vstF l).2.2 = 0) → ofG most ls i t = (addW t (sumT most ls), 0, 0)
  | [], _, t, h, _ => by rw [show sumT most [] = tot0 from rfl, addW_zero h]; rfl
  | l :: ls, i, t, h, hv => by
    have ho : InT (oneMore t) := by rw [oneMore_add h]; exact h.add _
    have e : legT most l (vstF l).1 (oneMore t) l.scores.length = addW t (dT most l) := by
      rw [(legT_add most l _ ho _).1, oneMore_add h, addW_assoc]
      rfl
    unfold ofG
    rw [if_pos (hv l (by simp)), e, ofG_all most ls (i + 1) (h.add _) (fun m hm => hv m (by simp [hm])), addW_assoc]
    rfl
theorem ofS_all {most : Int} {ls : List Leg} (hv : ∀ l ∈ ls, (vstF l).2.2 = 0) (hl : ls.length ≤ 200) : ofS most ls = (sumT most ls, 0, 0) := by
  unfold ofS
  rw [if_neg (by omega), ofG_all most ls 0 InT.zero hv, zero_addW (InT.sumT most ls)]
theorem sumT_app (most : Int) : ∀ a b : List Leg, sumT most (a ++ b) = addW (sumT most a) (sumT most b)
  | [], b => (zero_addW (InT.sumT most b)).symm
  | l :: a, b => by
    show addW (dT most l) (sumT most (a ++ b)) = addW (addW (dT most l) (sumT most a)) (sumT most b)
    rw [sumT_app most a b, addW_assoc]
theorem sumT_rev (most : Int) : ∀ a : List Leg, sumT most a.reverse = sumT most a
  | [] => rfl
  | l :: a => by
    rw [List.reverse_cons, sumT_app, sumT_rev most a]
    show addW (sumT most a) (addW (dT most l) tot0) = addW (dT most l) (sumT most a)
    rw [addW_zero (InT.dT most l), addW_comm]
/-- High visits. -/
def Hb (m : Int) (t : Tot) : Prop := 0 ≤ t.tops ∧ t.tops ≤ t.highs ∧ t.highs ≤ t.tons ∧ t.tons ≤ m
theorem Hb.sum {m : Int} {t : Tot} (h : Hb m t) (hm : m ≤ 1000000) (x : Ex) (g : Gl) : Hb (m + 1) (sumS t x g) := by
  obtain ⟨h1, h2, h3, h4⟩ := h
  unfold Hb sumS
  dsimp only
  have e1 : wrap64 (t.tops + 1) = t.tops + 1 := wrap64_in' ⟨by omega, by omega⟩
  have e2 : wrap64 (t.highs + 1) = t.highs + 1 := wrap64_in' ⟨by omega, by omega⟩
  have e3 : wrap64 (t.tons + 1) = t.tons + 1 := wrap64_in' ⟨by omega, by omega⟩
  rw [e1, e2, e3]
  split <;> split <;> split <;> omega
theorem Hb.leg {m : Int} {t : Tot} (h : Hb m t) (most : Int) (l : Leg) (xs : List Ex) : ∀ k : Nat, m + k ≤ 1000000 → Hb (m + k) (legT most l xs t k)
  | 0, _ => by
    rw [show m + ((0 : Nat) : Int) = m by omega]
    exact h
  | k + 1, hk => by
    push_cast at hk ⊢
    have ih := Hb.leg h most l xs k (by omega)
    unfold legT
    split
    · have := ih.sum (by omega) (xs.getD k noEx) (gAt l.start l.scores l.won k).g
      rw [show m + ((k : Int) + 1) = m + k + 1 by omega]
      exact this
    · obtain ⟨a, b, c, d⟩ := ih
      exact ⟨a, b, c, by omega⟩
theorem Hb.add {m n : Int} {a b : Tot} (h : Hb m a) (h' : Hb n b) (hm : m + n ≤ 1000000) : Hb (m + n) (addW a b) := by
  obtain ⟨h1, h2, h3, h4⟩ := h
  obtain ⟨k1, k2, k3, k4⟩ := h'
  unfold Hb addW
  dsimp only
  rw [wrap64_in' (x := a.tops + b.tops) ⟨by omega, by omega⟩, wrap64_in' (x := a.highs + b.highs) ⟨by omega, by omega⟩, wrap64_in' (x := a.tons + b.tons) ⟨by omega, by omega⟩]
  omega
theorem Hb.zero : Hb 0 tot0 := ⟨Int.le_refl _, Int.le_refl _, Int.le_refl _, Int.le_refl _⟩
theorem Hb.sumT {most : Int} : ∀ {ls : List Leg}, (∀ l ∈ ls, l.scores.length ≤ 100) → ls.length ≤ 200 → Hb (100 * ls.length) (sumT most ls)
  | [], _, _ => Hb.zero
  | l :: ls, h, hl => by
    simp only [List.length_cons] at hl ⊢
    push_cast
    have ih := Hb.sumT (most := most) (fun m hm => h m (by simp [hm])) (show ls.length ≤ 200 by omega)
    have h1 := h l (by simp)
    have h2 : Hb 100 (dT most l) := by
      have h3 := Hb.leg Hb.zero most l (vstF l).1 l.scores.length (by omega)
      have h4 := (show Hb 0 (oneMore tot0) from ⟨Int.le_refl _, Int.le_refl _, Int.le_refl _, Int.le_refl _⟩).add h3 (by omega)
      have h6 : Hb (0 + (0 + (l.scores.length : Int))) (dT most l) := h4
      obtain ⟨a, b, c, d⟩ := h6
      exact ⟨a, b, c, by omega⟩
    have h5 := h2.add ih (by omega)
    rw [show 100 * ((ls.length : Int) + 1) = 100 + 100 * ls.length by omega]
    exact h5
/-- What is left never rises. -/
theorem left_le {start gin gout : Int} {bl : List Int} {vs : List (List Int)} {x : Exa} (hL : lawsB start gin gout bl = true) (h : rxG gin gout bl vs 0 (exa0 start) = .inl x) (k : Nat) (e : Exa) (he : rxG gin gout bl (vs.take k) 0 (exa0 start) = .inl e) : ∀ (j : Nat) (e' : Exa), k ≤ j → j ≤ vs.length → rxG gin gout bl (vs.take j) 0 (exa0 start) = .inl e' → e'.left ≤ e.left
  | 0, e', h1, _, h3 => by
    obtain rfl : k = 0 := by omega
    rw [he] at h3
    injection h3 with h3
    rw [h3]
    exact Int.le_refl _
  | j + 1, e', h1, h2, h3 => by
    by_cases hk : k = j + 1
    · subst hk
      rw [he] at h3
      injection h3 with h3
      rw [h3]
      exact Int.le_refl _
    · obtain ⟨e1, r, hS⟩ := step_k hL h j (by omega)
      have ih := left_le hL h k e he j e1 (by omega) (by omega) hS.pre
      have hq : e' = rxU e1 vs[j].length r := by have := hS.post; rw [h3] at this; injection this
      subst hq
      have hB := (laws_cnt hL).2
      have hs1 := hS.st
      have hl := leastS_pos gout
      obtain ⟨hrun, -⟩ := rvE_run hS.run
      have hin := rvF_in hB (L := e1.left) (I := e1.inn) vs[j] 0 ⟨e1.left, e1.inn, 0, 0⟩ r hrun (Int.le_refl _) (by simp) (.inl rfl) (.inl (by dsimp only; have := hs1.1; omega))
      rw [rxU_left]
      split
      · exact ih
      · rcases hin with h4 | h4
        · omega
        · have := h4.2; omega
/-- A leg that was thrown, cut off after three visits. -/
def cutD (bl : List Int) (d : Tld) : Tld := if 3 < d.vs.length then (match rxG d.gin d.gout bl (d.vs.take 3) 0 (exa0 d.start) with
  | .inl e => ⟨d.start, d.gin, d.gout, d.vs.take 3, e⟩
  | .inr _ => d) else d
structure CutI (bl : List Int) (d c : Tld) : Prop where
  ok : c.ok bl
  same : c.start = d.start ∧ c.gin = d.gin ∧ c.gout = d.gout
  sco : c.x.scores = d.x.scores.take 3
  won : c.x.won = if 3 < d.vs.length then false else d.x.won
  len : c.vs.length = min d.vs.length 3
  pts : 0 ≤ c.pts ∧ c.pts ≤ d.pts
theorem cut_is {bl : List Int} {d : Tld} (h : d.ok bl) : CutI bl d (cutD bl d) := by
  have hb := h.bnd
  have hv := (vst_thrown h.law h.run (by have := h.len; omega)).2.1
  unfold cutD
  by_cases h3 : 3 < d.vs.length
  · rw [if_pos h3]
    obtain ⟨e, r, hS⟩ := step_k h.law h.run 3 h3
    have hp := hS.pre
    rw [hp]
    dsimp only
    have t1 := tlx_all h.law h.run (by have := h.len; omega) 3 e (by omega) hS.pre
    have t2 := h.tlx
    refine ⟨⟨h.law, hp, by rw [List.length_take]; have := h.len; omega⟩, ⟨rfl, rfl, rfl⟩, hS.sco.1.symm, by rw [if_pos h3]; exact hS.won, by rw [List.length_take]; omega, ?_⟩
    show 0 ≤ e.t.points ∧ e.t.points ≤ d.x.t.points
    have p1 := t1.pts
    have p2 := t2.pts
    have hst := hS.st
    rw [p1, p2]
    have hle := left_le h.law h.run 3 e hp d.vs.length d.x (by omega) (Nat.le_refl _) (by rw [List.take_length]; exact h.run)
    have := hst.2.1
    omega
  · rw [if_neg h3]
    refine ⟨h, ⟨rfl, rfl, rfl⟩, by rw [List.take_of_length_le (by omega)], by rw [if_neg h3], by omega, ?_⟩
    exact ⟨hb.2.2.2.1, Int.le_refl _⟩
theorem legT_congr {l m : Leg} {xs ys : List Ex} {n : Nat} (hn : n ≤ 3) (h : ∀ k, k < n → xs.getD k noEx = ys.getD k noEx ∧ (gAt l.start l.scores l.won k).g = (gAt m.start m.scores m.won k).g) (t : Tot) : ∀ k, k ≤ n → legT 100 l xs t k = legT 3 m ys t k
  | 0, _ => rfl
  | k + 1, hk => by
    obtain ⟨h1, h2⟩ := h k (by omega)
    have ih := legT_congr hn h t k (by omega)
    unfold legT
    rw [if_pos (by omega), if_pos (by omega), ih, h1, h2]
theorem legT_stop (l : Leg) (xs : List Ex) (t : Tot) : ∀ k, 3 ≤ k → legT 3 l xs t k = legT 3 l xs t 3
  | 0, h => by omega
  | k + 1, h => by
    by_cases h3 : k + 1 = 3
    · rw [h3]
    · rw [← legT_stop l xs t k (by omega)]
      show (if (k : Int) < 3 then _ else _) = _
      rw [if_neg (by omega)]
theorem getD_take {l : List Int} {k n : Nat} (h : k < n) : (l.take n).getD k 0 = l.getD k 0 := by
  rw [List.getD_eq_getElem?_getD, List.getD_eq_getElem?_getD, List.getElem?_take_of_lt h]
theorem stT_take (start : Int) (l : List Int) (n : Nat) : ∀ k, k ≤ n → stT start (l.take n) k = stT start l k
  | 0, _ => rfl
  | k + 1, h => by
    unfold stT
    rw [stT_take start l n k (by omega), getD_take (by omega)]
theorem goT_getD {start : Int} {sc : List Int} {won : Bool} {n k : Nat} (h : k < n) (f : Sg → Ex) : ((goT start sc won n).map f).getD k noEx = f (gAt start sc won k) := by
  rw [List.getD_eq_getElem?_getD, List.getElem?_map, goT, List.getElem?_map, List.getElem?_range h]
  rfl
theorem cut_dT {bl : List Int} {d : Tld} (h : d.ok bl) : dT 100 ((cutD bl d).leg bl) = dT 3 (d.leg bl) := by
  obtain ⟨hok, ⟨hs1, hs2, hs3⟩, hsc, hw, hln, -⟩ := cut_is h
  obtain ⟨-, l1, v1⟩ := vst_thrown h.law h.run (by have := h.len; omega)
  obtain ⟨-, l2, v2⟩ := vst_thrown hok.law hok.run (by have := hok.len; omega)
  have e1 : vstF (d.leg bl) = ((goT d.start d.x.scores d.x.won d.x.scores.length).map (fun s => spnF (allOf d.gin d.gout bl s)), 0, 0) := v1
  have e2 : vstF ((cutD bl d).leg bl) = ((goT (cutD bl d).start (cutD bl d).x.scores (cutD bl d).x.won (cutD bl d).x.scores.length).map (fun s => spnF (allOf (cutD bl d).gin (cutD bl d).gout bl s)), 0, 0) := v2
  have k1 : (d.leg bl).scores.length = d.vs.length := l1
  have k2 : ((cutD bl d).leg bl).scores.length = min d.vs.length 3 := by rw [← hln]; exact l2
  unfold dT
  rw [e1, e2, k1, k2]
  dsimp only
  have hg : ∀ k, k < min d.vs.length 3 → gAt (cutD bl d).start (cutD bl d).x.scores (cutD bl d).x.won k = gAt d.start d.x.scores d.x.won k := by
    intro k hk
    unfold gAt
    rw [hs1, hsc, stT_take _ _ _ _ (by omega), getD_take (by omega), List.length_take, l1, hw]
    congr 2
    by_cases h3 : 3 < d.vs.length
    · rw [if_pos h3, decide_eq_false (p := k + 1 = d.vs.length) (by omega), Bool.and_false, Bool.false_and]
    · rw [if_neg h3, show min 3 d.vs.length = d.vs.length by omega]
  have key := legT_congr (l := (cutD bl d).leg bl) (m := d.leg bl) (xs := (goT (cutD bl d).start (cutD bl d).x.scores (cutD bl d).x.won (cutD bl d).x.scores.length).map (fun s => spnF (allOf (cutD bl d).gin (cutD bl d).gout bl s))) (ys := (goT d.start d.x.scores d.x.won d.x.scores.length).map (fun s => spnF (allOf d.gin d.gout bl s))) (n := min d.vs.length 3) (by omega) (fun k hk => by
    refine ⟨?_, congrArg Sg.g (hg k hk)⟩
    rw [goT_getD (by have : (cutD bl d).x.scores.length = min d.vs.length 3 := k2
                     omega), goT_getD (by omega), hg k hk, hs2, hs3]) tot0 (min d.vs.length 3) (Nat.le_refl _)
  rw [key]
  congr 1
  by_cases h3 : 3 ≤ d.vs.length
  · rw [legT_stop _ _ _ d.vs.length h3, Nat.min_eq_right h3]
  · rw [Nat.min_eq_left (by omega)]
theorem legT_dh {l : Leg} {xs : List Ex} {n : Nat} (hn : n ≤ 1000) (h : ∀ k, k < n → 0 ≤ (xs.getD k noEx).dh ∧ (xs.getD k noEx).dh ≤ 3) : ∀ k, k ≤ n → 0 ≤ (legT 3 l xs tot0 k).darts.hi ∧ (legT 3 l xs tot0 k).darts.hi ≤ (legT 100 l xs tot0 k).darts.hi ∧ (legT 100 l xs tot0 k).darts.hi ≤ 3 * k
  | 0, _ => ⟨Int.le_refl _, Int.le_refl _, Int.le_refl _⟩
  | k + 1, hk => by
    obtain ⟨h1, h2, h3⟩ := legT_dh (l := l) hn h k (by omega)
    have hx := h k (by omega)
    have w1 : wrap64 ((legT 3 l xs tot0 k).darts.hi + (xs.getD k noEx).dh) = (legT 3 l xs tot0 k).darts.hi + (xs.getD k noEx).dh := wrap64_in' ⟨by omega, by omega⟩
    have w2 : wrap64 ((legT 100 l xs tot0 k).darts.hi + (xs.getD k noEx).dh) = (legT 100 l xs tot0 k).darts.hi + (xs.getD k noEx).dh := wrap64_in' ⟨by omega, by omega⟩
    have a : (legT 3 l xs tot0 (k + 1)).darts.hi = if (k : Int) < 3 then (legT 3 l xs tot0 k).darts.hi + (xs.getD k noEx).dh else (legT 3 l xs tot0 k).darts.hi := by
      show (if (k : Int) < 3 then sumS _ _ _ else _).darts.hi = _
      split
      · exact w1
      · rfl
    have b : (legT 100 l xs tot0 (k + 1)).darts.hi = if (k : Int) < 100 then (legT 100 l xs tot0 k).darts.hi + (xs.getD k noEx).dh else (legT 100 l xs tot0 k).darts.hi := by
      show (if (k : Int) < 100 then sumS _ _ _ else _).darts.hi = _
      split
      · exact w2
      · rfl
    rw [a, b]
    push_cast
    split <;> split <;> omega
theorem dT_dh {bl : List Int} {d : Tld} (h : d.ok bl) : 0 ≤ (dT 3 (d.leg bl)).darts.hi ∧ (dT 3 (d.leg bl)).darts.hi ≤ (dT 100 (d.leg bl)).darts.hi ∧ (dT 100 (d.leg bl)).darts.hi ≤ 300 := by
  obtain ⟨-, l1, v1⟩ := vst_thrown h.law h.run (by have := h.len; omega)
  have e1 : vstF (d.leg bl) = ((goT d.start d.x.scores d.x.won d.x.scores.length).map (fun s => spnF (allOf d.gin d.gout bl s)), 0, 0) := v1
  have k1 : (d.leg bl).scores.length = d.vs.length := l1
  have hl := h.len
  unfold dT
  rw [e1, k1]
  dsimp only
  obtain ⟨q1, q2, q3⟩ := legT_dh (l := d.leg bl) (xs := (goT d.start d.x.scores d.x.won d.x.scores.length).map (fun s => spnF (allOf d.gin d.gout bl s))) (n := d.vs.length) (by omega) (fun k hk => by
    rw [goT_getD (by omega)]
    obtain ⟨e, r, hS⟩ := step_k h.law h.run k hk
    have hin := step_in h.law h.run (by omega) hS
    have hsp := spn_has hin
    omega) d.vs.length (Nat.le_refl _)
  have z : (oneMore tot0).darts.hi = 0 := rfl
  have f : ∀ t : Tot, (addW (oneMore tot0) t).darts.hi = wrap64 (0 + t.darts.hi) := fun t => rfl
  rw [f, f, wrap64_in' (x := 0 + (legT 3 _ _ _ _).darts.hi) ⟨by omega, by omega⟩, wrap64_in' (x := 0 + (legT 100 _ _ _ _).darts.hi) ⟨by omega, by omega⟩]
  omega
theorem sumT_dh {bl : List Int} : ∀ {ds : List Tld}, (∀ d ∈ ds, d.ok bl) → ds.length ≤ 200 → 0 ≤ (sumT 3 (ds.map (Tld.leg bl))).darts.hi ∧ (sumT 3 (ds.map (Tld.leg bl))).darts.hi ≤ (sumT 100 (ds.map (Tld.leg bl))).darts.hi ∧ (sumT 100 (ds.map (Tld.leg bl))).darts.hi ≤ 300 * ds.length
  | [], _, _ => ⟨Int.le_refl _, Int.le_refl _, Int.le_refl _⟩
  | d :: ds, h, hl => by
    simp only [List.length_cons] at hl ⊢
    obtain ⟨i1, i2, i3⟩ := sumT_dh (ds := ds) (fun e he => h e (by simp [he])) (by omega)
    obtain ⟨j1, j2, j3⟩ := dT_dh (h d (by simp))
    have f : ∀ m : Int, (sumT m ((d :: ds).map (Tld.leg bl))).darts.hi = wrap64 ((dT m (d.leg bl)).darts.hi + (sumT m (ds.map (Tld.leg bl))).darts.hi) := fun m => rfl
    rw [f, f, wrap64_in' (x := (dT 3 (d.leg bl)).darts.hi + _) ⟨by omega, by omega⟩, wrap64_in' (x := (dT 100 (d.leg bl)).darts.hi + _) ⟨by omega, by omega⟩]
    push_cast
    omega
theorem sumT_cut {bl : List Int} : ∀ {ds : List Tld}, (∀ d ∈ ds, d.ok bl) → sumT 100 ((ds.map (cutD bl)).map (Tld.leg bl)) = sumT 3 (ds.map (Tld.leg bl))
  | [], _ => rfl
  | d :: ds, h => by
    show addW (dT 100 ((cutD bl d).leg bl)) (sumT 100 ((ds.map (cutD bl)).map (Tld.leg bl))) = addW (dT 3 (d.leg bl)) (sumT 3 (ds.map (Tld.leg bl)))
    rw [cut_dT (h d (by simp)), sumT_cut (fun e he => h e (by simp [he]))]
theorem sumD_cut {bl : List Int} : ∀ {ds : List Tld}, (∀ d ∈ ds, d.ok bl) → (sumD Tld.vis (ds.map (cutD bl)) ≤ sumD Tld.vis ds ∧ sumD Tld.vis (ds.map (cutD bl)) ≤ 3 * ds.length) ∧ sumD Tld.pts (ds.map (cutD bl)) ≤ sumD Tld.pts ds
  | [], _ => ⟨⟨Int.le_refl _, Int.le_refl _⟩, Int.le_refl _⟩
  | d :: ds, h => by
    obtain ⟨⟨i1, i2⟩, i3⟩ := sumD_cut (ds := ds) (fun e he => h e (by simp [he]))
    have hc := cut_is (h d (by simp))
    have h1 := hc.len
    have h2 := hc.pts
    rw [List.map_cons, sumD_cons, sumD_cons, sumD_cons, sumD_cons, List.length_cons]
    have e1 : (cutD bl d).vis = ((cutD bl d).vs.length : Int) := rfl
    have e2 : d.vis = (d.vs.length : Int) := rfl
    push_cast
    omega
/-- Two totals that are small, added. -/
def plT (a b : Tot) : Tot := ⟨a.legs + b.legs, a.won + b.won, a.visits + b.visits, a.points + b.points, ⟨a.darts.lo + b.darts.lo, a.darts.hi + b.darts.hi⟩, ⟨a.tried.lo + b.tried.lo, a.tried.hi + b.tried.hi⟩, a.tons + b.tons, a.highs + b.highs, a.tops + b.tops, max a.best b.best⟩
/-- Small totals. -/
def SmT (t : Tot) : Prop := TBnd 20000 t ∧ Hb 20000 t
theorem addW_pl {a b : Tot} (ha : SmT a) (hb : SmT b) : addW a b = plT a b := by
  obtain ⟨⟨a1, a2, a3, a4, ⟨a5, a6⟩, a7, a8⟩, a9, a10, a11, a12⟩ := ha
  obtain ⟨⟨b1, b2, b3, b4, ⟨b5, b6⟩, b7, b8⟩, b9, b10, b11, b12⟩ := hb
  unfold addW plT
  rw [wrap64_in' (x := a.legs + b.legs) ⟨by omega, by omega⟩, wrap64_in' (x := a.won + b.won) ⟨by omega, by omega⟩, wrap64_in' (x := a.visits + b.visits) ⟨by omega, by omega⟩, wrap64_in' (x := a.points + b.points) ⟨by omega, by omega⟩, wrap64_in' (x := a.darts.lo + b.darts.lo) ⟨by omega, by omega⟩, wrap64_in' (x := a.darts.hi + b.darts.hi) ⟨by omega, by omega⟩, wrap64_in' (x := a.tried.lo + b.tried.lo) ⟨by omega, by omega⟩, wrap64_in' (x := a.tried.hi + b.tried.hi) ⟨by omega, by omega⟩, wrap64_in' (x := a.tons + b.tons) ⟨by omega, by omega⟩, wrap64_in' (x := a.highs + b.highs) ⟨by omega, by omega⟩, wrap64_in' (x := a.tops + b.tops) ⟨by omega, by omega⟩]
theorem sm_of {bl : List Int} {ds : List Tld} (h : ∀ d ∈ ds, d.ok bl) (hl : ds.length ≤ 4) : SmT (sumT 100 (ds.map (Tld.leg bl))) := by
  have hv : ∀ l ∈ ds.map (Tld.leg bl), (vstF l).2.2 = 0 := fun l hl => by
    obtain ⟨d, hd, rfl⟩ := List.mem_map.1 hl
    have hv := (vst_thrown (h d hd).law (h d hd).run (by have := (h d hd).len; omega)).2.2
    have e : vstF (d.leg bl) = _ := hv
    rw [e]
  have hln : (ds.map (Tld.leg bl)).length ≤ 200 := by rw [List.length_map]; omega
  obtain ⟨T, hT, -, hB⟩ := tot_sum h (by omega)
  have hTe : T = sumT 100 (ds.map (Tld.leg bl)) := by
    rw [ofS_all hv hln] at hT
    exact (congrArg Prod.fst hT).symm
  rw [hTe] at hB
  refine ⟨hB, ?_⟩
  have hH := Hb.sumT (most := 100) (ls := ds.map (Tld.leg bl)) (fun l hl => by
    obtain ⟨d, hd, rfl⟩ := List.mem_map.1 hl
    have h1 := (h d hd).sco.1
    have h2 := (h d hd).len
    show d.x.scores.length ≤ 100
    omega) hln
  rw [List.length_map] at hH
  obtain ⟨a, b, c, d⟩ := hH
  exact ⟨a, b, c, by omega⟩
/-- What the law asks of many legs. -/
structure ManyI (A F : Tot) : Prop where
  legs : F.legs = A.legs
  vis : F.visits ≤ A.visits ∧ F.visits ≤ 3 * A.legs
  pts : F.points ≤ A.points
  dh : F.darts.hi ≤ A.darts.hi ∧ F.darts.hi ≤ 9 * A.legs
  high : F.highs ≤ F.tons ∧ F.tops ≤ F.highs
  bnd : 0 ≤ A.legs ∧ A.legs ≤ 100
theorem many_is0 {bl : List Int} {ds : List Tld} (h : ∀ d ∈ ds, d.ok bl) (hl : ds.length ≤ 4) (k : Nat) : ∃ O S F : Tot, ofS 100 (ds.map (Tld.leg bl)) = (addW O S, 0, 0) ∧ ofS 100 (ds.map (Tld.leg bl)).reverse = (addW O S, 0, 0) ∧ ofS 100 ((ds.map (Tld.leg bl)).take k) = (O, 0, 0) ∧ ofS 100 ((ds.map (Tld.leg bl)).drop k) = (S, 0, 0) ∧ ofS 3 (ds.map (Tld.leg bl)) = (F, 0, 0) ∧ ofS 100 ((ds.map (cutD bl)).map (Tld.leg bl)).reverse = (F, 0, 0) ∧ ManyI (addW O S) F := by
  have hv : ∀ l ∈ ds.map (Tld.leg bl), (vstF l).2.2 = 0 := fun l hl => by
    obtain ⟨d, hd, rfl⟩ := List.mem_map.1 hl
    have hv := (vst_thrown (h d hd).law (h d hd).run (by have := (h d hd).len; omega)).2.2
    have e : vstF (d.leg bl) = _ := hv
    rw [e]
  have hc : ∀ d ∈ ds.map (cutD bl), d.ok bl := fun c hc => by
    obtain ⟨d, hd, rfl⟩ := List.mem_map.1 hc
    exact (cut_is (h d hd)).ok
  have hv2 : ∀ l ∈ (ds.map (cutD bl)).map (Tld.leg bl), (vstF l).2.2 = 0 := fun l hl => by
    obtain ⟨d, hd, rfl⟩ := List.mem_map.1 hl
    have hv := (vst_thrown (hc d hd).law (hc d hd).run (by have := (hc d hd).len; omega)).2.2
    have e : vstF (d.leg bl) = _ := hv
    rw [e]
  have hln : (ds.map (Tld.leg bl)).length ≤ 200 := by rw [List.length_map]; omega
  have hA : sumT 100 (ds.map (Tld.leg bl)) = addW (sumT 100 ((ds.map (Tld.leg bl)).take k)) (sumT 100 ((ds.map (Tld.leg bl)).drop k)) := by rw [← sumT_app, List.take_append_drop]
  obtain ⟨T, hT, hM, hB⟩ := tot_sum h (by omega)
  obtain ⟨T2, hT2, hM2, hB2⟩ := tot_sum hc (by rw [List.length_map]; omega)
  have hTe : T = sumT 100 (ds.map (Tld.leg bl)) := by
    rw [ofS_all hv hln] at hT
    exact (congrArg Prod.fst hT).symm
  have hTe2 : T2 = sumT 3 (ds.map (Tld.leg bl)) := by
    rw [ofS_all hv2 (by rw [List.length_map, List.length_map]; omega)] at hT2
    rw [← sumT_cut h]
    exact (congrArg Prod.fst hT2).symm
  refine ⟨_, _, sumT 3 (ds.map (Tld.leg bl)), by rw [ofS_all hv hln, hA], by rw [ofS_all (fun l hl => hv l (List.mem_reverse.1 hl)) (by rw [List.length_reverse]; exact hln), sumT_rev, hA], ofS_all (fun l hl => hv l (List.mem_of_mem_take hl)) (by rw [List.length_take]; omega), ofS_all (fun l hl => hv l (List.mem_of_mem_drop hl)) (by rw [List.length_drop]; omega), ofS_all hv hln, by rw [ofS_all (fun l hl => hv2 l (List.mem_reverse.1 hl)) (by rw [List.length_reverse, List.length_map, List.length_map]; omega), sumT_rev, sumT_cut h], ?_⟩
  rw [← hA, ← hTe, ← hTe2]
  have hd := sumT_dh h (by omega)
  rw [← hTe, ← hTe2] at hd
  have hs := sumD_cut h
  have hH := Hb.sumT (most := 3) (ls := ds.map (Tld.leg bl)) (fun l hl => by
    obtain ⟨d, hd, rfl⟩ := List.mem_map.1 hl
    have h1 := (h d hd).sco.1
    have h2 := (h d hd).len
    show d.x.scores.length ≤ 100
    omega) hln
  rw [← hTe2] at hH
  have m1 := hM.legs
  have m2 := hM2.legs
  have m3 := hM.vis
  have m4 := hM2.vis
  have m5 := hM.pts
  have m6 := hM2.pts
  have m7 := hM2.dh
  have z1 : tot0.legs = 0 := rfl
  have z2 : tot0.visits = 0 := rfl
  have z3 : tot0.points = 0 := rfl
  have z4 : tot0.darts.hi = 0 := rfl
  rw [z1] at m1 m2
  rw [z2] at m3 m4
  rw [z3] at m5 m6
  rw [z4] at m7
  rw [List.length_map] at m2
  exact ⟨by omega, ⟨by omega, by omega⟩, by omega, ⟨hd.2.1, by omega⟩, ⟨hH.2.2.1, hH.2.1⟩, by omega, by omega⟩
theorem many_is {bl : List Int} {ds : List Tld} (h : ∀ d ∈ ds, d.ok bl) (hl : ds.length ≤ 4) (k : Nat) : ∃ O S F : Tot, ofS 100 (ds.map (Tld.leg bl)) = (plT O S, 0, 0) ∧ ofS 100 (ds.map (Tld.leg bl)).reverse = (plT O S, 0, 0) ∧ ofS 100 ((ds.map (Tld.leg bl)).take k) = (O, 0, 0) ∧ ofS 100 ((ds.map (Tld.leg bl)).drop k) = (S, 0, 0) ∧ ofS 3 (ds.map (Tld.leg bl)) = (F, 0, 0) ∧ ofS 100 ((ds.map (cutD bl)).map (Tld.leg bl)).reverse = (F, 0, 0) ∧ ManyI (plT O S) F ∧ SmT O ∧ SmT S := by
  obtain ⟨O, S, F, h1, h2, h3, h4, h5, h6, h7⟩ := many_is0 h hl k
  have hv : ∀ l ∈ ds.map (Tld.leg bl), (vstF l).2.2 = 0 := fun l hl => by
    obtain ⟨d, hd, rfl⟩ := List.mem_map.1 hl
    have hv := (vst_thrown (h d hd).law (h d hd).run (by have := (h d hd).len; omega)).2.2
    have e : vstF (d.leg bl) = _ := hv
    rw [e]
  have hO : SmT O := by
    have e : O = sumT 100 ((ds.map (Tld.leg bl)).take k) := by
      rw [ofS_all (fun l hl => hv l (List.mem_of_mem_take hl)) (by rw [List.length_take, List.length_map]; omega)] at h3
      exact (congrArg Prod.fst h3).symm
    rw [e, ← List.map_take]
    exact sm_of (fun d hd => h d (List.mem_of_mem_take hd)) (by rw [List.length_take]; omega)
  have hS : SmT S := by
    have e : S = sumT 100 ((ds.map (Tld.leg bl)).drop k) := by
      rw [ofS_all (fun l hl => hv l (List.mem_of_mem_drop hl)) (by rw [List.length_drop, List.length_map]; omega)] at h4
      exact (congrArg Prod.fst h4).symm
    rw [e, ← List.map_drop]
    exact sm_of (fun d hd => h d (List.mem_of_mem_drop hd)) (by rw [List.length_drop]; omega)
  rw [addW_pl hO hS] at h1 h2 h7
  exact ⟨O, S, F, h1, h2, h3, h4, h5, h6, h7, hO, hS⟩
end Go.Proofs.Ytmopadnkjlodnaa
