/-
  Plain: all visits from a stand, and the extents of their goals.
-/
import Derived.Test.YtmopadnkjlodnaaMke
import Derived.Test.YtmopadnkjlodnaaMeanD
namespace Go.Proofs.Ytmopadnkjlodnaa
/-- What a visit comes to: its goal, its darts, and how many were at a finish. -/
structure Oc where
  g : Gl
  d : Int
  t : Int
structure IsE (g : Gl) (D : List Oc) (x : Ex) : Prop where
  some : x.some = true
  dl : ∃ o ∈ D, o.g = g ∧ o.d = x.dl
  dh : ∃ o ∈ D, o.g = g ∧ o.d = x.dh
  tl : ∃ o ∈ D, o.g = g ∧ o.t = x.tl
  th : ∃ o ∈ D, o.g = g ∧ o.t = x.th
  all : ∀ o ∈ D, o.g = g → x.dl ≤ o.d ∧ o.d ≤ x.dh ∧ x.tl ≤ o.t ∧ o.t ≤ x.th
def OutR (l : List (Gl × Ex)) (D : List Oc) : Prop := ∀ g, (lookL l g = none ∧ ∀ o ∈ D, o.g ≠ g) ∨ ∃ x, lookL l g = some x ∧ IsE g D x
theorem OutR.nil : OutR [] [] := fun g => .inl ⟨rfl, by simp⟩
theorem IsE.congr {g : Gl} {D D' : List Oc} {x : Ex} (h : IsE g D x) (e : ∀ o, o ∈ D ↔ o ∈ D') : IsE g D' x :=
  ⟨h.some, let ⟨o, h1, h2⟩ := h.dl; ⟨o, (e o).1 h1, h2⟩, let ⟨o, h1, h2⟩ := h.dh; ⟨o, (e o).1 h1, h2⟩, let ⟨o, h1, h2⟩ := h.tl; ⟨o, (e o).1 h1, h2⟩, let ⟨o, h1, h2⟩ := h.th; ⟨o, (e o).1 h1, h2⟩, fun o ho hg => h.all o ((e o).2 ho) hg⟩
theorem OutR.congr {l : List (Gl × Ex)} {D D' : List Oc} (h : OutR l D) (e : ∀ o, o ∈ D ↔ o ∈ D') : OutR l D' := fun g => by
  rcases h g with ⟨h1, h2⟩ | ⟨x, h1, h2⟩
  · exact .inl ⟨h1, fun o ho => h2 o ((e o).2 ho)⟩
  · exact .inr ⟨x, h1, h2.congr e⟩
theorem IsE.uniq {g : Gl} {D : List Oc} {x y : Ex} (h : IsE g D x) (k : IsE g D y) : x = y := by
  have le : ∀ {a b : Ex}, IsE g D a → IsE g D b → a.dl ≤ b.dl ∧ b.dh ≤ a.dh ∧ a.tl ≤ b.tl ∧ b.th ≤ a.th := by
    intro a b ha hb
    obtain ⟨o1, m1, g1, e1⟩ := hb.dl
    obtain ⟨o2, m2, g2, e2⟩ := hb.dh
    obtain ⟨o3, m3, g3, e3⟩ := hb.tl
    obtain ⟨o4, m4, g4, e4⟩ := hb.th
    have r1 := ha.all o1 m1 g1
    have r2 := ha.all o2 m2 g2
    have r3 := ha.all o3 m3 g3
    have r4 := ha.all o4 m4 g4
    omega
  have h1 := le h k
  have h2 := le k h
  obtain ⟨x1, x2, x3, x4, x5⟩ := x
  obtain ⟨y1, y2, y3, y4, y5⟩ := y
  have s1 := h.some
  have s2 := k.some
  simp only at h1 h2 s1 s2
  subst s1 s2
  obtain rfl : x1 = y1 := by omega
  obtain rfl : x2 = y2 := by omega
  obtain rfl : x3 = y3 := by omega
  obtain rfl : x4 = y4 := by omega
  rfl
theorem OutR.add {l : List (Gl × Ex)} {D : List Oc} (hn : (l.map (·.1)).Nodup) (h : OutR l D) (g : Gl) (d t : Int) : OutR (putL l g (addX ((lookL l g).getD noEx) d t)) (D ++ [⟨g, d, t⟩]) := by
  intro j
  by_cases e : j = g
  · subst e
    refine .inr ⟨_, by rw [lookL_put hn, if_pos rfl], ?_⟩
    have hmem : ∀ o, o ∈ D ++ [⟨j, d, t⟩] ↔ o ∈ D ∨ o = ⟨j, d, t⟩ := fun o => by simp
    have hlast : (⟨j, d, t⟩ : Oc) ∈ D ++ [⟨j, d, t⟩] := by simp
    rcases h j with ⟨h1, h2⟩ | ⟨x, h1, h2⟩
    · rw [h1]
      have hx : addX (Option.getD none noEx) d t = ⟨d, d, t, t, true⟩ := rfl
      rw [hx]
      refine ⟨rfl, ⟨_, hlast, rfl, rfl⟩, ⟨_, hlast, rfl, rfl⟩, ⟨_, hlast, rfl, rfl⟩, ⟨_, hlast, rfl, rfl⟩, fun o ho hg => ?_⟩
      rcases (hmem o).1 ho with h | rfl
      · exact absurd hg (h2 o h)
      · simp
    · rw [h1]
      have hx : addX (Option.getD (some x) noEx) d t = ⟨min x.dl d, max x.dh d, min x.tl t, max x.th t, true⟩ := by
        show addX x d t = _
        unfold addX; rw [if_pos h2.some]
      rw [hx]
      obtain ⟨o1, m1, g1, e1⟩ := h2.dl
      obtain ⟨o2, m2, g2, e2⟩ := h2.dh
      obtain ⟨o3, m3, g3, e3⟩ := h2.tl
      obtain ⟨o4, m4, g4, e4⟩ := h2.th
      refine ⟨rfl, ?_, ?_, ?_, ?_, fun o ho hg => ?_⟩
      · rcases Int.le_total x.dl d with c | c
        · exact ⟨o1, (hmem _).2 (.inl m1), g1, by rw [e1]; show x.dl = min x.dl d; omega⟩
        · exact ⟨_, hlast, rfl, by show d = min x.dl d; omega⟩
      · rcases Int.le_total d x.dh with c | c
        · exact ⟨o2, (hmem _).2 (.inl m2), g2, by rw [e2]; show x.dh = max x.dh d; omega⟩
        · exact ⟨_, hlast, rfl, by show d = max x.dh d; omega⟩
      · rcases Int.le_total x.tl t with c | c
        · exact ⟨o3, (hmem _).2 (.inl m3), g3, by rw [e3]; show x.tl = min x.tl t; omega⟩
        · exact ⟨_, hlast, rfl, by show t = min x.tl t; omega⟩
      · rcases Int.le_total t x.th with c | c
        · exact ⟨o4, (hmem _).2 (.inl m4), g4, by rw [e4]; show x.th = max x.th t; omega⟩
        · exact ⟨_, hlast, rfl, by show t = max x.th t; omega⟩
      · show min x.dl d ≤ o.d ∧ o.d ≤ max x.dh d ∧ min x.tl t ≤ o.t ∧ o.t ≤ max x.th t
        rcases (hmem o).1 ho with h | rfl
        · have := h2.all o h hg; omega
        · simp only; omega
  · rcases h j with ⟨h1, h2⟩ | ⟨x, h1, h2⟩
    · refine .inl ⟨by rw [lookL_put hn, if_neg e]; exact h1, fun o ho => ?_⟩
      rcases List.mem_append.1 ho with h | h
      · exact h2 o h
      · simp at h; rw [h]; exact fun k => e k.symm
    · refine .inr ⟨x, by rw [lookL_put hn, if_neg e]; exact h1, ?_⟩
      have key : ∀ {p : Oc → Prop}, (∃ o ∈ D, o.g = j ∧ p o) → ∃ o ∈ D ++ [⟨g, d, t⟩], o.g = j ∧ p o := fun ⟨o, h1, h2⟩ => ⟨o, by simp [h1], h2⟩
      refine ⟨h2.some, key h2.dl, key h2.dh, key h2.tl, key h2.th, fun o ho hg => ?_⟩
      rcases List.mem_append.1 ho with h | h
      · exact h2.all o h hg
      · simp at h; rw [h] at hg; exact absurd hg.symm e
section
variable (gin gout : Int) (beds : List Int) (s : Sd)
/-- How many darts of a visit are at a finish, with the next one. -/
def triN (n : Nw) : Int := n.tried + finI gin gout beds n.left n.inn
/-- What a dart ends, and where it leads. -/
def out1N (dart : Nat) (n : Nw) (x : Int) : List Oc :=
  if (hitS gin gout n.left n.inn x).2.2 = 1 then [⟨⟨s.left, true⟩, (dart : Int) + 1, triN gin gout beds n⟩]
  else if (hitS gin gout n.left n.inn x).2.2 = 2 then [⟨⟨0, false⟩, (dart : Int) + 1, triN gin gout beds n⟩] else []
def nxt1N (n : Nw) (x : Int) : List Nw :=
  if (hitS gin gout n.left n.inn x).2.2 = 1 then [] else if (hitS gin gout n.left n.inn x).2.2 = 2 then [] else [⟨(hitS gin gout n.left n.inn x).1, (hitS gin gout n.left n.inn x).2.1, triN gin gout beds n⟩]
def outN (dart : Nat) (n : Nw) : List Oc := (0 :: beds).flatMap (out1N gin gout beds s dart n)
def nxtN (n : Nw) : List Nw := (0 :: beds).flatMap (nxt1N gin gout beds n)
def levN : Nat → List Nw
  | 0 => [⟨s.left, s.inn, 0⟩]
  | k + 1 => (levN k).flatMap (nxtN gin gout beds)
/-- What the visits come to that end with one of the first darts. -/
def outTo : Nat → List Oc
  | 0 => []
  | k + 1 => outTo k ++ (levN gin gout beds s k).flatMap (outN gin gout beds s k)
def outS : List Oc := outTo gin gout beds s 3 ++ (levN gin gout beds s 3).map fun n => ⟨⟨s.left - n.left, false⟩, 3, n.tried⟩
end
end Go.Proofs.Ytmopadnkjlodnaa
