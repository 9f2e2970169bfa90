/-
  Plain: the extents of a goal, as a function; the spans of the visits of a leg.
-/
import Derived.Test.YtmopadnkjlodnaaMgp
namespace Go.Proofs.Ytmopadnkjlodnaa
def exL : List Oc → List (Gl × Ex) → List (Gl × Ex)
  | [], l => l
  | o :: D, l => exL D (putL l o.g (addX ((lookL l o.g).getD noEx) o.d o.t))
/-- What is known of the visits that come to a goal. -/
def exS (D : List Oc) (g : Gl) : Option Ex := lookL (exL D []) g
theorem exL_right : ∀ (D E : List Oc) (l : List (Gl × Ex)), (l.map (·.1)).Nodup → OutR l E → OutR (exL D l) (E ++ D)
  | [], E, l, _, h => by rw [List.append_nil]; exact h
  | o :: D, E, l, hn, h => by
    have := exL_right D (E ++ [o]) _ (putL_nodup hn o.g _) (OutR.add hn h o.g o.d o.t)
    rw [List.append_assoc] at this
    exact this
theorem exS_right (D : List Oc) : OutR (exL D []) D := by
  have := exL_right D [] [] (by simp) OutR.nil
  rwa [List.nil_append] at this
theorem OutR.look {l : List (Gl × Ex)} {D : List Oc} (h : OutR l D) (g : Gl) : lookL l g = exS D g := by
  unfold exS
  rcases h g with ⟨h1, h2⟩ | ⟨x, h1, h2⟩ <;> rcases exS_right D g with ⟨k1, k2⟩ | ⟨y, k1, k2⟩
  · rw [h1, k1]
  · obtain ⟨o, m, e, -⟩ := k2.dl
    exact absurd e (h2 o m)
  · obtain ⟨o, m, e, -⟩ := h2.dl
    exact absurd e (k2 o m)
  · rw [h1, k1, h2.uniq k2]
theorem exS_some {D : List Oc} {g : Gl} {x : Ex} (h : exS D g = some x) : IsE g D x := by
  rcases exS_right D g with ⟨k1, -⟩ | ⟨y, k1, k2⟩
  · unfold exS at h
    rw [k1] at h
    cases h
  · unfold exS at h
    rw [k1] at h
    cases h
    exact k2
theorem exS_none {D : List Oc} {g : Gl} (h : exS D g = none) : ∀ o ∈ D, o.g ≠ g := by
  rcases exS_right D g with ⟨-, k2⟩ | ⟨y, k1, -⟩
  · exact k2
  · unfold exS at h
    rw [k1] at h
    cases h
theorem outN_bounds {gin gout : Int} {beds : List Int} {s : Sd} (h : bedsB beds = true) (hs : 0 ≤ s.left) {k : Nat} {n : Nw} (hn : n ∈ levN gin gout beds s k) {o : Oc} (ho : o ∈ outN gin gout beds s k n) : (0 ≤ o.g.score ∧ o.g.score ≤ s.left) ∧ o.d = (k : Int) + 1 ∧ 0 ≤ o.t ∧ o.t ≤ k + 1 := by
  obtain ⟨x, -, hx⟩ := List.mem_flatMap.1 ho
  obtain ⟨-, h3, h4⟩ := lev_bounds h hs k n hn
  have hf : 0 ≤ finI gin gout beds n.left n.inn ∧ finI gin gout beds n.left n.inn ≤ 1 := by unfold finI; split <;> decide
  unfold out1N at hx
  unfold triN at hx
  split at hx
  · rw [List.mem_singleton] at hx
    subst hx
    exact ⟨⟨hs, Int.le_refl _⟩, rfl, by simp only; omega, by simp only; omega⟩
  · split at hx
    · rw [List.mem_singleton] at hx
      subst hx
      exact ⟨⟨Int.le_refl _, hs⟩, rfl, by simp only; omega, by simp only; omega⟩
    · cases hx
theorem outTo_bounds {gin gout : Int} {beds : List Int} {s : Sd} (h : bedsB beds = true) (hs : 0 ≤ s.left) : ∀ (k : Nat) {o : Oc}, o ∈ outTo gin gout beds s k → (0 ≤ o.g.score ∧ o.g.score ≤ s.left) ∧ (1 ≤ o.d ∧ o.d ≤ k) ∧ 0 ≤ o.t ∧ o.t ≤ k
  | 0, o, ho => by cases ho
  | k + 1, o, ho => by
    rcases List.mem_append.1 ho with ho | ho
    · have := outTo_bounds h hs k ho
      refine ⟨this.1, ?_, this.2.2.1, ?_⟩ <;> have := this.2 <;> omega
    · obtain ⟨n, hn, ho⟩ := List.mem_flatMap.1 ho
      have := outN_bounds h hs hn ho
      refine ⟨this.1, ?_, this.2.2.1, ?_⟩ <;> have := this.2 <;> omega
theorem outS_bounds {gin gout : Int} {beds : List Int} {s : Sd} (h : bedsB beds = true) (hs : 0 ≤ s.left) {o : Oc} (ho : o ∈ outS gin gout beds s) : (0 ≤ o.g.score ∧ o.g.score ≤ s.left) ∧ (1 ≤ o.d ∧ o.d ≤ 3) ∧ 0 ≤ o.t ∧ o.t ≤ 3 := by
  rcases List.mem_append.1 ho with ho | ho
  · exact outTo_bounds h hs 3 ho
  · obtain ⟨n, hn, rfl⟩ := List.mem_map.1 ho
    have := lev_bounds h hs 3 n hn
    simp only
    omega
theorem exS_bounds {gin gout : Int} {beds : List Int} {s : Sd} (h : bedsB beds = true) (hs : 0 ≤ s.left) {g : Gl} {x : Ex} (hx : exS (outS gin gout beds s) g = some x) : (0 ≤ g.score ∧ g.score ≤ s.left) ∧ (1 ≤ x.dl ∧ x.dl ≤ x.dh ∧ x.dh ≤ 3) ∧ 0 ≤ x.tl ∧ x.tl ≤ x.th ∧ x.th ≤ 3 := by
  have he := exS_some hx
  obtain ⟨o1, m1, g1, e1⟩ := he.dl
  obtain ⟨o2, m2, g2, e2⟩ := he.dh
  obtain ⟨o3, m3, g3, e3⟩ := he.tl
  obtain ⟨o4, m4, g4, e4⟩ := he.th
  have b1 := outS_bounds h hs m1
  have b2 := outS_bounds h hs m2
  have b3 := outS_bounds h hs m3
  have b4 := outS_bounds h hs m4
  have a1 := he.all o1 m1 g1
  rw [g1] at b1
  exact ⟨b1.1, by omega, by omega⟩
/-- The spans of visits, from some on; or the first one that cannot be. -/
def visG (gin gout : Int) (beds : List Int) : List Sg → List Ex → List Ex × Int × Int
  | [], acc => (acc, 0, 0)
  | x :: l, acc => match exS (outS gin gout beds x.s) x.g with
    | none => ([], acc.length, 7)
    | some e => visG gin gout beds l (acc ++ [e])
def visR (start gin gout : Int) (beds scores : List Int) (won : Bool) : List Ex × Int × Int := visG gin gout beds (goT start scores won scores.length) []
/-- So many of the first visits can be, with these spans. -/
structure VisTo (gin gout : Int) (beds : List Int) (pre : List Sg) (acc : List Ex) : Prop where
  len : acc.length = pre.length
  rest : ∀ l, visG gin gout beds (pre ++ l) [] = visG gin gout beds l acc
  at_ : ∀ (i : Nat) (x : Sg), pre[i]? = some x → acc[i]? = exS (outS gin gout beds x.s) x.g
theorem VisTo.nil (gin gout : Int) (beds : List Int) : VisTo gin gout beds [] [] := ⟨rfl, fun _ => rfl, by simp⟩
theorem VisTo.snoc {gin gout : Int} {beds : List Int} {pre : List Sg} {acc : List Ex} (h : VisTo gin gout beds pre acc) {x : Sg} {e : Ex} (hx : exS (outS gin gout beds x.s) x.g = some e) : VisTo gin gout beds (pre ++ [x]) (acc ++ [e]) :=
  ⟨by simp [h.len], fun l => by
    rw [List.append_assoc, h.rest]
    show visG _ _ _ (x :: l) acc = _
    rw [show visG gin gout beds (x :: l) acc = (match exS (outS gin gout beds x.s) x.g with | none => ([], (acc.length : Int), 7) | some e => visG gin gout beds l (acc ++ [e])) from rfl, hx], fun i y hy => by
    by_cases hi : i < pre.length
    · rw [List.getElem?_append_left hi] at hy
      rw [List.getElem?_append_left (by rw [h.len]; exact hi)]
      exact h.at_ i y hy
    · rw [List.getElem?_append_right (by omega)] at hy
      rw [List.getElem?_append_right (by rw [h.len]; omega)]
      rw [h.len]
      cases hd : i - pre.length with
      | zero => rw [hd] at hy; cases hy; simpa using hx.symm
      | succ k => rw [hd] at hy; simp at hy⟩
theorem VisTo.stop {gin gout : Int} {beds : List Int} {pre : List Sg} {acc : List Ex} (h : VisTo gin gout beds pre acc) {x : Sg} (hx : exS (outS gin gout beds x.s) x.g = none) (l : List Sg) : visG gin gout beds (pre ++ x :: l) [] = ([], (pre.length : Int), 7) := by
  rw [h.rest]
  rw [show visG gin gout beds (x :: l) acc = (match exS (outS gin gout beds x.s) x.g with | none => ([], (acc.length : Int), 7) | some e => visG gin gout beds l (acc ++ [e])) from rfl, hx]
  show ([], (acc.length : Int), 7) = _
  rw [h.len]
theorem VisTo.done {gin gout : Int} {beds : List Int} {pre : List Sg} {acc : List Ex} (h : VisTo gin gout beds pre acc) : visG gin gout beds pre [] = (acc, 0, 0) := by
  have := h.rest []
  rwa [List.append_nil] at this
theorem goT_len (start : Int) (scores : List Int) (won : Bool) (k : Nat) : (goT start scores won k).length = k := by simp [goT]
theorem goT_split (start : Int) (scores : List Int) (won : Bool) (k : Nat) (hk : k < scores.length) : ∃ l, goT start scores won scores.length = goT start scores won k ++ gAt start scores won k :: l := by
  have h1 : (goT start scores won scores.length).take k = goT start scores won k := by
    unfold goT
    rw [← List.map_take, List.take_range, Nat.min_eq_left (by omega)]
  have h2 : k < (goT start scores won scores.length).length := by rw [goT_len]; exact hk
  have h3 : (goT start scores won scores.length)[k] = gAt start scores won k := by simp [goT]
  refine ⟨(goT start scores won scores.length).drop (k + 1), ?_⟩
  rw [← h1, ← h3, ← List.drop_eq_getElem_cons h2, List.take_append_drop]
end Go.Proofs.Ytmopadnkjlodnaa
