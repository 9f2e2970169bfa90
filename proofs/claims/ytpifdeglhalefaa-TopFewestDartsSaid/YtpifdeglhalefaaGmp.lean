/-
  Package leg: what a visit does to a leg, as data. No walk here.
-/
import Derived.Test.YtpifdeglhalefaaGms
namespace Go.Proofs.Ytpifdeglhalefaa
open Go.RowKit
/-- A visit as it is written. -/
structure LV where
  player : Int
  beds : List Int
def leastF (n : Nat) (f : Int → Option Int) : Int := ((List.range n).filterMap fun (p : Nat) => f (p : Int)).foldl min 1002
def winS (n : Nat) (f : Int → Option Int) : List Int := ((List.range n).map fun (p : Nat) => (p : Int)).filter fun p => f p == some (leastF n f)
def hasF (n : Nat) (f : Int → Option Int) : Bool := (List.range n).any fun p => (f (p : Int)).isSome
def Gm.fin (r : Rul) (g : Gm) : Gm :=
  match endS r.equal (g.done == 0) (hasF r.counts.length g.ended) (g.round == r.rounds) g.ended (leftF g.left g.left.length) with
  | none => g
  | some f => { g with next := -1, over := true, winners := winS r.counts.length f }
def wonF (f : Int → Option Int) (p : Int) (x : Thr) : Int → Option Int := if x.won = true then updF f p x.darts else f
def Gm.put (r : Rul) (g : Gm) (i : Nat) (x : Thr) : Gm :=
  { left := g.left.set i x.left, inn := g.inn.set i x.inn, darts := g.darts.set i (g.darts.getD i 0 + x.darts), ended := wonF g.ended i x, next := ((i : Int) + 1) % (r.counts.length : Int),
    done := if g.done + 1 = r.counts.length then 0 else g.done + 1, round := if g.done + 1 = r.counts.length then g.round + 1 else g.round, over := g.over, winners := g.winners }
def cntOf (r : Rul) (i : Nat) : Cnt := r.counts.getD i ⟨0, 0, 0⟩
def Gm.thr (r : Rul) (g : Gm) (i : Nat) (beds : List Int) : Thr × Int × Int := Go.Proofs.Ytpifdeglhalefaa.thr (cntOf r i).gin (cntOf r i).gout (g.inn.getD i false) (g.left.getD i 0) beds
/-- A leg after a visit, the number of the wrong dart, and the error. -/
def Gm.step (r : Rul) (g : Gm) (p : Int) (beds : List Int) : Gm × Int × Int :=
  if chkS r.counts.length g.next g.over p ≠ 0 then (g, -1, chkS r.counts.length g.next g.over p)
  else if (g.thr r p.toNat beds).2.2 ≠ 0 then (g, (g.thr r p.toNat beds).2.1, (g.thr r p.toNat beds).2.2)
  else ((g.put r p.toNat (g.thr r p.toNat beds).1).fin r, -1, 0)
/-- What is so of each leg that is played. -/
structure Gm.Ok (r : Rul) (g : Gm) (n : Nat) : Prop where
  left : g.left.length = r.counts.length
  darts : g.darts.length = r.counts.length
  inn : g.inn.length = r.counts.length
  lefts : ∀ x ∈ g.left, 0 ≤ x ∧ x ≤ 1001
  dartss : ∀ x ∈ g.darts, 0 ≤ x ∧ x ≤ 3 * (n : Int)
  round : 0 ≤ g.round ∧ g.round ≤ n
  done : 0 ≤ g.done ∧ g.done < r.counts.length
  none : g.over = false → g.winners = []
  ended : ∀ x c, g.ended x = some c → (0 ≤ x ∧ x < r.counts.length) ∧ (0 ≤ c ∧ c ≤ 3)
theorem Gm.Ok.begin {r : Rul} (h : r.ok = true) : (Gm.begin r).Ok r 0 := by
  have hl := Rul.ok_length h
  refine ⟨by simp [Gm.begin], by simp [Gm.begin], by simp [Gm.begin], fun x hx => ?_, fun x hx => ?_, ⟨Int.le_refl _, Int.le_refl _⟩, ⟨Int.le_refl _, by show (0 : Int) < _; omega⟩, fun _ => rfl, fun x c h => by cases h⟩
  · simp only [Gm.begin, List.mem_map] at hx
    obtain ⟨c, hc, rfl⟩ := hx
    have := cntB_start (Rul.ok_count h hc)
    omega
  · simp only [Gm.begin, List.mem_replicate] at hx
    omega
theorem thrW_bounds {gin gout : Int} : ∀ {beds : List Int} {i : Int} {x y : Thr}, thrW gin gout beds i x = .inl y → (0 ≤ x.left ∧ x.left ≤ 1001) → (0 ≤ x.darts ∧ x.darts ≤ 3) → (0 ≤ y.left ∧ y.left ≤ 1001) ∧ (0 ≤ y.darts ∧ y.darts ≤ 3)
  | [], _, x, y, h, h1, h2 => by simp only [thrW, Sum.inl.injEq] at h; subst h; exact ⟨h1, h2⟩
  | b :: l, i, x, y, h, h1, h2 => by
    unfold thrW at h
    split at h
    · cases h
    · rename_i ho
      split at h
      · cases h
      · rename_i hv
        have hv' : validB b = true := by simpa using hv
        have ho' : x.over = false := by simpa using ho
        refine thrW_bounds h (Thr.hit_left hv' h1) ?_
        rw [Thr.hit_darts]
        have := Thr.over_darts ho'
        omega
theorem thr_bounds {gin gout left : Int} {inn : Bool} {beds : List Int} (_h : (thr gin gout inn left beds).2.2 = 0) (hl : 0 ≤ left ∧ left ≤ 1001) : (0 ≤ (thr gin gout inn left beds).1.left ∧ (thr gin gout inn left beds).1.left ≤ 1001) ∧ (0 ≤ (thr gin gout inn left beds).1.darts ∧ (thr gin gout inn left beds).1.darts ≤ 3) := by
  unfold thr
  cases hw : thrW gin gout beds 0 ⟨left, 0, 0, inn, false, false⟩ with
  | inr e =>
    obtain ⟨i, e⟩ := e
    exact (by decide : ((0 : Int) ≤ 0 ∧ (0 : Int) ≤ 1001) ∧ (0 : Int) ≤ 0 ∧ (0 : Int) ≤ 3)
  | inl y =>
    have hb := thrW_bounds hw hl ⟨Int.le_refl 0, by show (0 : Int) ≤ 3; decide⟩
    simp only [thrE, Thr.end]
    split
    · exact (by decide : ((0 : Int) ≤ 0 ∧ (0 : Int) ≤ 1001) ∧ (0 : Int) ≤ 0 ∧ (0 : Int) ≤ 3)
    · split
      · exact ⟨hl, hb.2⟩
      · exact hb
theorem leastF_le {n : Nat} {f : Int → Option Int} : leastF n f ≤ 1002 ∧ (∀ i : Nat, i < n → ∀ c, f i = some c → leastF n f ≤ c) ∧ (leastF n f = 1002 ∨ ∃ i : Nat, i < n ∧ f i = some (leastF n f)) := by
  have key : ∀ (l : List Int) (m : Int), l.foldl min m ≤ m ∧ (∀ x ∈ l, l.foldl min m ≤ x) ∧ (l.foldl min m = m ∨ l.foldl min m ∈ l) := by
    intro l
    induction l with
    | nil => intro m; simp
    | cons a l ih =>
      intro m
      obtain ⟨h1, h2, h3⟩ := ih (min m a)
      simp only [List.foldl_cons, List.mem_cons]
      refine ⟨by omega, fun x hx => ?_, ?_⟩
      · rcases hx with rfl | hx
        · omega
        · exact h2 x hx
      · rcases h3 with h3 | h3
        · by_cases hma : m ≤ a
          · exact .inl (by omega)
          · exact .inr (.inl (by omega))
        · exact .inr (.inr h3)
  obtain ⟨h1, h2, h3⟩ := key ((List.range n).filterMap fun (p : Nat) => f (p : Int)) 1002
  refine ⟨h1, fun i hi c hc => h2 c (List.mem_filterMap.2 ⟨i, List.mem_range.2 hi, hc⟩), h3.imp id fun h => ?_⟩
  obtain ⟨i, hi, hc⟩ := List.mem_filterMap.1 h
  exact ⟨i, List.mem_range.1 hi, hc⟩
theorem pair_lt_ext : ∀ {a b : List Int}, a.Pairwise (· < ·) → b.Pairwise (· < ·) → (∀ x, x ∈ a ↔ x ∈ b) → a = b
  | [], [], _, _, _ => rfl
  | [], y :: b, _, _, h => by have := (h y).2 List.mem_cons_self; cases this
  | x :: a, [], _, _, h => by have := (h x).1 List.mem_cons_self; cases this
  | x :: a, y :: b, ha, hb, h => by
    obtain ⟨ha1, ha2⟩ := List.pairwise_cons.1 ha
    obtain ⟨hb1, hb2⟩ := List.pairwise_cons.1 hb
    have hxy : x = y := by
      rcases List.mem_cons.1 ((h x).1 List.mem_cons_self) with e | hx
      · exact e
      · rcases List.mem_cons.1 ((h y).2 List.mem_cons_self) with e | hy
        · exact e.symm
        · have := ha1 y hy; have := hb1 x hx; omega
    subst hxy
    congr 1
    refine pair_lt_ext ha2 hb2 fun z => ⟨fun hz => ?_, fun hz => ?_⟩
    · rcases List.mem_cons.1 ((h z).1 (List.mem_cons_of_mem _ hz)) with e | hz'
      · have := ha1 z hz; omega
      · exact hz'
    · rcases List.mem_cons.1 ((h z).2 (List.mem_cons_of_mem _ hz)) with e | hz'
      · have := hb1 z hz; omega
      · exact hz'
/-- Winners as 'win' lays them are those of the plain words. -/
theorem win_unique {n : Nat} {f : Int → Option Int} {W : List Int} {m : Int} (hW : W.Pairwise (· < ·)) (hm : IsLeast f m) (hx : ∀ x, x ∈ W ↔ f x = some m) (hd : ∀ x c, f x = some c → 0 ≤ x ∧ x < n) : W = winS n f := by
  have hl := leastF_le (n := n) (f := f)
  have hm' : IsLeast f (leastF n f) := ⟨hl.1, fun x c hc => by
    have := hd x c hc
    obtain ⟨i, rfl⟩ : ∃ i : Nat, x = i := ⟨x.toNat, by omega⟩
    exact hl.2.1 i (by omega) c hc, hl.2.2.imp id fun ⟨i, _, h⟩ => ⟨i, h⟩⟩
  obtain rfl := hm.unique hm'
  have h2 : (winS n f).Pairwise (· < ·) := by
    unfold winS
    refine List.Pairwise.filter _ ?_
    refine List.pairwise_map.2 ?_
    exact List.pairwise_lt_range.imp fun h => by omega
  have hmem : ∀ x, x ∈ winS n f ↔ f x = some (leastF n f) := fun x => by
    unfold winS
    simp only [List.mem_filter, List.mem_map, List.mem_range, beq_iff_eq]
    exact ⟨fun h => h.2, fun h => ⟨⟨x.toNat, by have := hd x _ h; omega, by have := hd x _ h; omega⟩, h⟩⟩
  have e : ∀ x, x ∈ W ↔ x ∈ winS n f := fun x => (hx x).trans (hmem x).symm
  exact pair_lt_ext hW h2 e
theorem mem_set_of {l : List Int} {i : Nat} {v x : Int} (h : x ∈ l.set i v) : x = v ∨ x ∈ l := by
  rcases List.mem_or_eq_of_mem_set h with h | h
  · exact .inr h
  · exact .inl h
theorem Gm.Ok.mono {r : Rul} {g : Gm} {n m : Nat} (h : g.Ok r n) (hnm : n ≤ m) : g.Ok r m :=
  ⟨h.left, h.darts, h.inn, h.lefts, fun x hx => by have := h.dartss x hx; omega, by have := h.round; omega, h.done, h.none, h.ended⟩
theorem Gm.Ok.dart {r : Rul} {g : Gm} {n : Nat} (h : g.Ok r n) (i : Nat) : 0 ≤ g.darts.getD i 0 ∧ g.darts.getD i 0 ≤ 3 * (n : Int) := by
  rw [List.getD_eq_getElem?_getD]
  cases hi : g.darts[i]? with
  | none => simp; omega
  | some x => exact h.dartss x (List.mem_of_getElem? hi)
theorem Gm.Ok.left_at {r : Rul} {g : Gm} {n : Nat} (h : g.Ok r n) (i : Nat) : 0 ≤ g.left.getD i 0 ∧ g.left.getD i 0 ≤ 1001 := by
  rw [List.getD_eq_getElem?_getD]
  cases hi : g.left[i]? with
  | none => simp
  | some x => exact h.lefts x (List.mem_of_getElem? hi)
theorem Gm.Ok.put {r : Rul} {g : Gm} {n : Nat} (h : g.Ok r n) {i : Nat} (hi : i < r.counts.length) {x : Thr} (hx : (0 ≤ x.left ∧ x.left ≤ 1001) ∧ (0 ≤ x.darts ∧ x.darts ≤ 3)) : (g.put r i x).Ok r (n + 1) := by
  have hd := h.dart i
  have hr := h.round
  have hdn := h.done
  refine ⟨by simp [Gm.put, h.left], by simp [Gm.put, h.darts], by simp [Gm.put, h.inn], fun y hy => ?_, fun y hy => ?_, ?_, ?_, h.none, fun y c hy => ?_⟩
  · rcases mem_set_of hy with rfl | hy
    · exact hx.1
    · exact h.lefts y hy
  · rcases mem_set_of hy with rfl | hy
    · omega
    · have := h.dartss y hy; omega
  · simp only [Gm.put]; split <;> omega
  · simp only [Gm.put]; split <;> omega
  · simp only [Gm.put, wonF] at hy
    split at hy
    · unfold updF at hy
      split at hy
      · rename_i e; cases hy; exact ⟨by omega, hx.2⟩
      · exact h.ended y c hy
    · exact h.ended y c hy
theorem Gm.Ok.fin {r : Rul} {g : Gm} {n : Nat} (h : g.Ok r n) : (g.fin r).Ok r n := by
  unfold Gm.fin
  split
  · exact h
  · exact ⟨h.left, h.darts, h.inn, h.lefts, h.dartss, h.round, h.done, fun e => (by cases e), h.ended⟩
theorem chkS_zero {n : Nat} {next p : Int} {over : Bool} (h : chkS n next over p = 0) : over = false ∧ p = next ∧ 0 ≤ p ∧ p < n := by
  unfold chkS at h
  split at h
  · cases h
  · rename_i h1
    split at h
    · cases h
    · rename_i h2
      split at h
      · cases h
      · rename_i h3
        have h2' : ins 0 ((n : Int) - 1) [p] = true := by simpa using h2
        rw [ins_one] at h2'
        exact ⟨by simpa using h1, by simpa using h3, by omega, by omega⟩
theorem Gm.Ok.step {r : Rul} {g : Gm} {n : Nat} (h : g.Ok r n) (p : Int) (beds : List Int) : (g.step r p beds).1.Ok r (n + 1) := by
  unfold Gm.step
  split
  · exact h.mono (by omega)
  · rename_i h1
    have hz := chkS_zero (Decidable.not_not.1 h1)
    split
    · exact h.mono (by omega)
    · rename_i h2
      exact (h.put (by omega) (thr_bounds (Decidable.not_not.1 h2) (h.left_at _))).fin
end Go.Proofs.Ytpifdeglhalefaa
