/-
  Plain: all visits of the reference are those whose extents the program keeps; spans.
-/
import Derived.Test.YtmopadnkjlodnaaPal
import Derived.Test.YtmopadnkjlodnaaPxa
import Derived.Test.YtmopadnkjlodnaaMvk
namespace Go.Proofs.Ytmopadnkjlodnaa
open Go.RowKit
section
variable (gin gout : Int) (beds : List Int) (s : Sd)
/-- What visits come to, dart by dart. -/
def outD : Nat → Nat → Nw → List Oc
  | 0, _, n => [⟨⟨s.left - n.left, false⟩, 3, n.tried⟩]
  | d + 1, k, n => (0 :: beds).flatMap fun x =>
    if (hitS gin gout n.left n.inn x).2.2 = 1 then [⟨⟨s.left, true⟩, (k : Int) + 1, triN gin gout beds n⟩]
    else if (hitS gin gout n.left n.inn x).2.2 = 2 then [⟨⟨0, false⟩, (k : Int) + 1, triN gin gout beds n⟩]
    else outD d (k + 1) ⟨(hitS gin gout n.left n.inn x).1, (hitS gin gout n.left n.inn x).2.1, triN gin gout beds n⟩
end
theorem outD_succ {gin gout : Int} {beds : List Int} {s : Sd} (d k : Nat) (n : Nw) (o : Oc) : o ∈ outD gin gout beds s (d + 1) k n ↔ o ∈ outN gin gout beds s k n ∨ ∃ m ∈ nxtN gin gout beds n, o ∈ outD gin gout beds s d (k + 1) m := by
  have e : outD gin gout beds s (d + 1) k n = (0 :: beds).flatMap fun x =>
    if (hitS gin gout n.left n.inn x).2.2 = 1 then [⟨⟨s.left, true⟩, (k : Int) + 1, triN gin gout beds n⟩]
    else if (hitS gin gout n.left n.inn x).2.2 = 2 then [⟨⟨0, false⟩, (k : Int) + 1, triN gin gout beds n⟩]
    else outD gin gout beds s d (k + 1) ⟨(hitS gin gout n.left n.inn x).1, (hitS gin gout n.left n.inn x).2.1, triN gin gout beds n⟩ := rfl
  rw [e]
  unfold outN nxtN
  simp only [List.mem_flatMap]
  constructor
  · rintro ⟨x, hx, ho⟩
    by_cases h1 : (hitS gin gout n.left n.inn x).2.2 = 1
    · rw [if_pos h1] at ho
      exact .inl ⟨x, hx, by unfold out1N; rw [if_pos h1]; exact ho⟩
    · by_cases h2 : (hitS gin gout n.left n.inn x).2.2 = 2
      · rw [if_neg h1, if_pos h2] at ho
        exact .inl ⟨x, hx, by unfold out1N; rw [if_neg h1, if_pos h2]; exact ho⟩
      · rw [if_neg h1, if_neg h2] at ho
        exact .inr ⟨_, ⟨x, hx, by unfold nxt1N; rw [if_neg h1, if_neg h2]; exact List.mem_singleton.2 rfl⟩, ho⟩
  · rintro (⟨x, hx, ho⟩ | ⟨m, ⟨x, hx, hm⟩, ho⟩)
    · refine ⟨x, hx, ?_⟩
      unfold out1N at ho
      by_cases h1 : (hitS gin gout n.left n.inn x).2.2 = 1
      · rw [if_pos h1] at ho ⊢; exact ho
      · by_cases h2 : (hitS gin gout n.left n.inn x).2.2 = 2
        · rw [if_neg h1, if_pos h2] at ho ⊢; exact ho
        · rw [if_neg h1, if_neg h2] at ho; cases ho
    · refine ⟨x, hx, ?_⟩
      unfold nxt1N at hm
      by_cases h1 : (hitS gin gout n.left n.inn x).2.2 = 1
      · rw [if_pos h1] at hm; cases hm
      · by_cases h2 : (hitS gin gout n.left n.inn x).2.2 = 2
        · rw [if_neg h1, if_pos h2] at hm; cases hm
        · rw [if_neg h1, if_neg h2] at hm ⊢
          rw [List.mem_singleton.1 hm] at ho
          exact ho
theorem outS_outD {gin gout : Int} {beds : List Int} {s : Sd} (o : Oc) : o ∈ outS gin gout beds s ↔ o ∈ outD gin gout beds s 3 0 ⟨s.left, s.inn, 0⟩ := by
  have step : ∀ k d, o ∈ outTo gin gout beds s (k + 1) ∨ (∃ n ∈ levN gin gout beds s (k + 1), o ∈ outD gin gout beds s d (k + 1) n) ↔ o ∈ outTo gin gout beds s k ∨ ∃ n ∈ levN gin gout beds s k, o ∈ outD gin gout beds s (d + 1) k n := by
    intro k d
    simp only [outTo, levN, List.mem_append, List.mem_flatMap, outD_succ]
    constructor
    · rintro ((h | ⟨n, hn, h⟩) | ⟨m, ⟨n, hn, hm⟩, h⟩)
      · exact .inl h
      · exact .inr ⟨n, hn, .inl h⟩
      · exact .inr ⟨n, hn, .inr ⟨m, hm, h⟩⟩
    · rintro (h | ⟨n, hn, h | ⟨m, hm, h⟩⟩)
      · exact .inl (.inl h)
      · exact .inl (.inr ⟨n, hn, h⟩)
      · exact .inr ⟨m, ⟨n, hn, hm⟩, h⟩
  have h3 : o ∈ outS gin gout beds s ↔ o ∈ outTo gin gout beds s 3 ∨ ∃ n ∈ levN gin gout beds s 3, o ∈ outD gin gout beds s 0 3 n := by
    unfold outS
    simp only [List.mem_append, List.mem_map, outD, List.mem_singleton]
    constructor
    · rintro (h | ⟨n, hn, h⟩)
      · exact .inl h
      · exact .inr ⟨n, hn, h.symm⟩
    · rintro (h | ⟨n, hn, h⟩)
      · exact .inl h
      · exact .inr ⟨n, hn, h.symm⟩
  rw [h3, step 2 0, step 1 1, step 0 2]
  constructor
  · rintro (h | ⟨n, hn, h⟩)
    · cases h
    · rw [show n = ⟨s.left, s.inn, 0⟩ from List.mem_singleton.1 hn] at h
      exact h
  · exact fun h => .inr ⟨_, List.mem_singleton.2 rfl, h⟩
theorem allF_leaf {gin gout : Int} {beds : List Int} {sl score : Int} {wins : Bool} (d : Nat) (left : Int) (inn : Bool) (eff : Int) (fb : List Int) (tr : Int) (h : eff ≠ 0) : allF gin gout beds sl score wins d left inn eff fb tr = leafF sl score wins left eff fb tr := by
  cases d with
  | zero => rfl
  | succ d => unfold allF; rw [if_neg h]
theorem hitS_won {gin gout left : Int} {inn : Bool} {x : Int} (h : (hitS gin gout left inn x).2.2 = 1) : (hitS gin gout left inn x).1 = 0 := by
  unfold hitS at h ⊢
  split
  · rename_i h1; rw [if_pos h1] at h; cases h
  · rename_i h1
    rw [if_neg h1] at h
    split
    · rfl
    · rename_i h2
      rw [if_neg h2] at h
      split
      · rename_i h3; rw [if_pos h3] at h; cases h
      · rename_i h3; rw [if_neg h3] at h; cases h
def ocV (g : Gl) (v : Vi) : Oc := ⟨g, v.beds.length, v.tried⟩
theorem leaf_mem {sl score : Int} {wins : Bool} {left eff : Int} {fb : List Int} {tr : Int} {o : Oc} : (∃ v ∈ leafF sl score wins left eff fb tr, o = ocV ⟨score, wins⟩ v) ↔ ((if eff = 2 then 0 else sl - left) = score ∧ (eff == 1) = wins) ∧ o = ⟨⟨score, wins⟩, fb.length, tr⟩ := by
  unfold leafF
  by_cases h : (if eff = 2 then 0 else sl - left) = score ∧ (eff == 1) = wins
  · rw [if_pos h]
    constructor
    · rintro ⟨v, hv, rfl⟩
      rw [List.mem_singleton.1 hv]
      exact ⟨h, rfl⟩
    · rintro ⟨-, rfl⟩
      exact ⟨_, List.mem_singleton.2 rfl, rfl⟩
  · rw [if_neg h]
    constructor
    · rintro ⟨v, hv, -⟩; cases hv
    · rintro ⟨h1, -⟩; exact absurd h1 h
theorem outD_all {gin gout : Int} {beds : List Int} {s : Sd} {score : Int} {wins : Bool} (o : Oc) : ∀ (d k : Nat) (n : Nw) (fb : List Int), fb.length = k → k + d = 3 →
    ((o ∈ outD gin gout beds s d k n ∧ o.g = ⟨score, wins⟩) ↔ ∃ v ∈ allF gin gout beds s.left score wins d n.left n.inn 0 fb n.tried, o = ocV ⟨score, wins⟩ v)
  | 0, k, n, fb, hk, hd => by
    unfold allF
    rw [leaf_mem, if_neg (by decide)]
    unfold outD
    rw [List.mem_singleton]
    constructor
    · rintro ⟨rfl, h⟩
      cases h
      exact ⟨⟨rfl, rfl⟩, by rw [hk, show k = 3 by omega]; rfl⟩
    · rintro ⟨⟨rfl, h2⟩, rfl⟩
      have h2 : false = wins := h2
      subst h2
      exact ⟨by rw [hk, show k = 3 by omega]; rfl, rfl⟩
  | d + 1, k, n, fb, hk, hd => by
    unfold allF outD
    rw [if_pos rfl]
    simp only [List.mem_flatMap]
    have key : ∀ x, ((o ∈ (if (hitS gin gout n.left n.inn x).2.2 = 1 then [⟨⟨s.left, true⟩, (k : Int) + 1, triN gin gout beds n⟩]
        else if (hitS gin gout n.left n.inn x).2.2 = 2 then [⟨⟨0, false⟩, (k : Int) + 1, triN gin gout beds n⟩]
        else outD gin gout beds s d (k + 1) ⟨(hitS gin gout n.left n.inn x).1, (hitS gin gout n.left n.inn x).2.1, triN gin gout beds n⟩)) ∧ o.g = ⟨score, wins⟩) ↔
        ∃ v ∈ allF gin gout beds s.left score wins d (hitS gin gout n.left n.inn x).1 (hitS gin gout n.left n.inn x).2.1 (hitS gin gout n.left n.inn x).2.2 (fb ++ [x]) (n.tried + finI gin gout beds n.left n.inn), o = ocV ⟨score, wins⟩ v := by
      intro x
      have hfl : (fb ++ [x]).length = k + 1 := by simp [hk]
      have hcl : (((fb ++ [x]).length : Nat) : Int) = (k : Int) + 1 := by rw [hfl]; rfl
      by_cases h1 : (hitS gin gout n.left n.inn x).2.2 = 1
      · rw [if_pos h1, h1, allF_leaf _ _ _ _ _ _ (by decide), leaf_mem, if_neg (by decide), hitS_won h1, Int.sub_zero, hcl, List.mem_singleton]
        constructor
        · rintro ⟨rfl, h⟩
          cases h
          exact ⟨⟨rfl, rfl⟩, rfl⟩
        · rintro ⟨⟨rfl, h2⟩, rfl⟩
          have h2 : true = wins := h2
          subst h2
          exact ⟨rfl, rfl⟩
      · by_cases h2 : (hitS gin gout n.left n.inn x).2.2 = 2
        · rw [if_neg h1, if_pos h2, h2, allF_leaf _ _ _ _ _ _ (by decide), leaf_mem, if_pos rfl, hcl, List.mem_singleton]
          constructor
          · rintro ⟨rfl, h⟩
            cases h
            exact ⟨⟨rfl, rfl⟩, rfl⟩
          · rintro ⟨⟨rfl, h2⟩, rfl⟩
            have h2 : false = wins := h2
            subst h2
            exact ⟨rfl, rfl⟩
        · have h0 : (hitS gin gout n.left n.inn x).2.2 = 0 := by
            rcases hitS_eff gin gout n.left n.inn x with h | h | h
            · exact h
            · exact absurd h h1
            · exact absurd h h2
          rw [if_neg h1, if_neg h2, h0]
          exact outD_all o d (k + 1) ⟨(hitS gin gout n.left n.inn x).1, (hitS gin gout n.left n.inn x).2.1, triN gin gout beds n⟩ (fb ++ [x]) hfl (by omega)
    constructor
    · rintro ⟨⟨x, hx, ho⟩, hg⟩
      obtain ⟨v, hv, he⟩ := (key x).1 ⟨ho, hg⟩
      exact ⟨v, ⟨x, hx, hv⟩, he⟩
    · rintro ⟨v, ⟨x, hx, hv⟩, he⟩
      obtain ⟨ho, hg⟩ := (key x).2 ⟨v, hv, he⟩
      exact ⟨⟨x, hx, ho⟩, hg⟩
/-- All visits to a goal, from a stand. -/
def allOf (gin gout : Int) (beds : List Int) (x : Sg) : List Vi := allF gin gout beds x.s.left x.g.score x.g.wins 3 x.s.left x.s.inn 0 [] 0
theorem outS_all {gin gout : Int} {beds : List Int} (x : Sg) (o : Oc) : (o ∈ outS gin gout beds x.s ∧ o.g = x.g) ↔ ∃ v ∈ allOf gin gout beds x, o = ocV x.g v := by
  rw [outS_outD]
  exact outD_all (score := x.g.score) (wins := x.g.wins) o 3 0 ⟨x.s.left, x.s.inn, 0⟩ [] rfl rfl
/-- The spans of visits. -/
def spnF (l : List Vi) : Ex := l.foldl (fun x v => addX x v.beds.length v.tried) noEx
theorem exL_map (g : Gl) : ∀ (l : List Vi) (m : List (Gl × Ex)), (m.map (·.1)).Nodup → lookL (exL (l.map (ocV g)) m) g = if l = [] then lookL m g else some (l.foldl (fun x v => addX x v.beds.length v.tried) ((lookL m g).getD noEx))
  | [], m, _ => by rw [if_pos rfl]; rfl
  | v :: l, m, hn => by
    rw [List.map_cons, exL, exL_map g l _ (putL_nodup hn _ _), if_neg (List.cons_ne_nil v l)]
    have e : lookL (putL m (ocV g v).g (addX ((lookL m (ocV g v).g).getD noEx) (ocV g v).d (ocV g v).t)) g = some (addX ((lookL m g).getD noEx) v.beds.length v.tried) := by
      rw [lookL_put hn]
      exact if_pos rfl
    rw [e]
    by_cases hl : l = []
    · rw [if_pos hl, hl]; rfl
    · rw [if_neg hl]; rfl
theorem IsE.alike {g : Gl} {D D' : List Oc} {x : Ex} (h : IsE g D x) (e : ∀ o, o.g = g → (o ∈ D ↔ o ∈ D')) : IsE g D' x :=
  ⟨h.some, let ⟨o, h1, h2, h3⟩ := h.dl; ⟨o, (e o h2).1 h1, h2, h3⟩, let ⟨o, h1, h2, h3⟩ := h.dh; ⟨o, (e o h2).1 h1, h2, h3⟩, let ⟨o, h1, h2, h3⟩ := h.tl; ⟨o, (e o h2).1 h1, h2, h3⟩, let ⟨o, h1, h2, h3⟩ := h.th; ⟨o, (e o h2).1 h1, h2, h3⟩, fun o ho hg => h.all o ((e o hg).2 ho) hg⟩
theorem exS_all (gin gout : Int) (beds : List Int) (x : Sg) : exS (outS gin gout beds x.s) x.g = if allOf gin gout beds x = [] then none else some (spnF (allOf gin gout beds x)) := by
  by_cases h : allOf gin gout beds x = []
  · rw [if_pos h]
    cases he : exS (outS gin gout beds x.s) x.g with
    | none => rfl
    | some y =>
      obtain ⟨o, h1, h2, -⟩ := (exS_some he).dl
      obtain ⟨v, hv, -⟩ := (outS_all x o).1 ⟨h1, h2⟩
      rw [h] at hv
      cases hv
  · rw [if_neg h]
    have h1 : exS ((allOf gin gout beds x).map (ocV x.g)) x.g = some (spnF (allOf gin gout beds x)) := by
      unfold exS
      rw [exL_map x.g _ [] (by simp), if_neg h]
      rfl
    have h2 := exS_some h1
    have h3 : IsE x.g (outS gin gout beds x.s) (spnF (allOf gin gout beds x)) := h2.alike fun o hg => by
      constructor
      · intro ho
        obtain ⟨v, hv, he⟩ := List.mem_map.1 ho
        exact ((outS_all x o).2 ⟨v, hv, he.symm⟩).1
      · intro ho
        obtain ⟨v, hv, he⟩ := (outS_all x o).1 ⟨ho, hg⟩
        exact List.mem_map.2 ⟨v, hv, he.symm⟩
    cases he : exS (outS gin gout beds x.s) x.g with
    | none =>
      obtain ⟨o, m1, g1, -⟩ := h3.dl
      exact absurd g1 (exS_none he o m1)
    | some y => rw [(exS_some he).uniq h3]
/-- All visits of a leg, or the number of the first visit that cannot be. -/
def rvG (gin gout : Int) (beds : List Int) : List Sg → Nat → List (List Vi) ⊕ Nat
  | [], _ => .inl []
  | x :: l, k => if allOf gin gout beds x = [] then .inr k else match rvG gin gout beds l (k + 1) with
    | .inl r => .inl (allOf gin gout beds x :: r)
    | .inr n => .inr n
theorem visG_rv (gin gout : Int) (beds : List Int) : ∀ (l : List Sg) (acc : List Ex), visG gin gout beds l acc = match rvG gin gout beds l acc.length with
    | .inl r => (acc ++ r.map spnF, 0, 0)
    | .inr n => ([], (n : Int), 7)
  | [], acc => by simp [visG, rvG]
  | x :: l, acc => by
    unfold visG rvG
    rw [exS_all]
    by_cases h : allOf gin gout beds x = []
    · rw [if_pos h, if_pos h]
    · rw [if_neg h, if_neg h]
      dsimp only
      rw [visG_rv gin gout beds l (acc ++ [spnF (allOf gin gout beds x)]), List.length_append, List.length_singleton]
      cases rvG gin gout beds l (acc.length + 1) with
      | inl r => simp
      | inr n => rfl
end Go.Proofs.Ytmopadnkjlodnaa
