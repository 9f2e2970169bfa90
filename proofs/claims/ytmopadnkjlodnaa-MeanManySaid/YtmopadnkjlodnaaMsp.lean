/-
  Plain: the visits that are shown. Rows of visits in memory.
-/
import Derived.Test.YtmopadnkjlodnaaMwa
namespace Go.Proofs.Ytmopadnkjlodnaa
open Go.RowKit
section
variable (gin gout : Int) (beds : List Int) (xs : List Ex) (en : Int)
/-- The first visit that is found, of so many darts. -/
def fndS (x : Sg) (tr : Int) (ds : List Int) : Option (List Int) := ds.findSome? fun d => srcF gin gout beds x.s ⟨x.g, d, tr⟩ d.toNat ⟨x.s.left, x.s.inn, 0⟩ []
def shwT (acc : List (List Int)) (x : Sg) : List (List Int) := match fndS gin gout beds x (wntS (xs.getD acc.length noEx) en).2 (wntS (xs.getD acc.length noEx) en).1 with
  | some way => acc ++ [way]
  | none => acc
end
/-- The visits that are shown for an end, or the error. -/
def shwS (l : Leg) (en : Int) : List (List Int) × Int × Int :=
  if l.ok = false then ([], 0, 2) else if en < 1 ∨ 4 < en then ([], 0, 3)
  else if (visR l.start l.gin l.gout l.beds l.scores l.won).2.2 = 0 then ((goT l.start l.scores l.won l.scores.length).foldl (shwT l.gin l.gout l.beds (visR l.start l.gin l.gout l.beds l.scores l.won).1 en) [], 0, 0)
  else ([], (visR l.start l.gin l.gout l.beds l.scores l.won).2.1, (visR l.start l.gin l.gout l.beds l.scores l.won).2.2)
theorem shwT_len (gin gout : Int) (beds : List Int) (xs : List Ex) (en : Int) (acc : List (List Int)) (x : Sg) : (shwT gin gout beds xs en acc x).length ≤ acc.length + 1 := by
  unfold shwT
  split <;> simp
theorem shw_len (gin gout : Int) (beds : List Int) (xs : List Ex) (en : Int) : ∀ (pre : List Sg) (acc : List (List Int)), (pre.foldl (shwT gin gout beds xs en) acc).length ≤ acc.length + pre.length
  | [], acc => by simp
  | x :: pre, acc => by
    have h1 := shw_len gin gout beds xs en pre (shwT gin gout beds xs en acc x)
    have h2 := shwT_len gin gout beds xs en acc x
    simp only [List.foldl_cons, List.length_cons]
    omega
theorem vis_to {gin gout : Int} {beds : List Int} : ∀ (l pre : List Sg) (acc : List Ex), VisTo gin gout beds pre acc → (visG gin gout beds l acc).2.2 = 0 → VisTo gin gout beds (pre ++ l) (visG gin gout beds l acc).1 ∧ (visG gin gout beds l acc).2.1 = 0
  | [], pre, acc, h, _ => by rw [List.append_nil]; exact ⟨h, rfl⟩
  | x :: l, pre, acc, h, he => by
    have e : visG gin gout beds (x :: l) acc = (match exS (outS gin gout beds x.s) x.g with | none => ([], (acc.length : Int), 7) | some e => visG gin gout beds l (acc ++ [e])) := rfl
    rw [e] at he ⊢
    cases hx : exS (outS gin gout beds x.s) x.g with
    | none => rw [hx] at he; simp at he
    | some y =>
      rw [hx] at he
      simp only at he ⊢
      have := vis_to l (pre ++ [x]) (acc ++ [y]) (h.snoc hx) he
      rw [List.append_assoc] at this
      exact this
theorem visR_to {start gin gout : Int} {beds scores : List Int} {won : Bool} (h : (visR start gin gout beds scores won).2.2 = 0) : VisTo gin gout beds (goT start scores won scores.length) (visR start gin gout beds scores won).1 := by
  have := (vis_to (goT start scores won scores.length) [] [] (VisTo.nil _ _ _) h).1
  rwa [List.nil_append] at this
/-- The spans of a visit of a leg that can be. -/
theorem span_bounds {gin gout start : Int} {beds scores : List Int} {won : Bool} {k : Nat} {acc : List Ex} (h : VisTo gin gout beds (goT start scores won k) acc) (hB : bedsB beds = true) (hs : 0 ≤ start ∧ start ≤ 2000) {j : Nat} (hj : j < k) : ∃ e, acc[j]? = some e ∧ exS (outS gin gout beds (gAt start scores won j).s) (gAt start scores won j).g = some e ∧ (1 ≤ e.dl ∧ e.dl ≤ e.dh ∧ e.dh ≤ 3) ∧ 0 ≤ e.tl ∧ e.tl ≤ e.th ∧ e.th ≤ 3 := by
  have hx : (goT start scores won k)[j]? = some (gAt start scores won j) := by
    unfold goT
    rw [List.getElem?_map, List.getElem?_range hj]
    rfl
  have ha := h.at_ j _ hx
  have hlt : j < acc.length := by rw [h.len, goT_len]; exact hj
  have ih := stT_bounds h hB hs j (by omega)
  rw [List.getElem?_eq_getElem hlt] at ha
  exact ⟨acc[j], List.getElem?_eq_getElem hlt, ha.symm, (exS_bounds hB ih.1 ha.symm).2⟩
/-- Visits in a row, each in a block of its own. -/
def WaysAt (w : World) (base : Nat) (v : Value) (ws : List (List Int)) : Prop := ∃ vals : List Value, w.ownsRow base 25 1 v ws.length vals ∧ vals.length = ws.length ∧ ∀ i (h : i < ws.length), ∃ a c, vals[i]? = some (.slice a ws[i].length c) ∧ OwnD w base (.slice a ws[i].length c) ws[i]
theorem WaysAt.nil (w : World) (base : Nat) : WaysAt w base (.slice none 0 0) [] := ⟨[], World.ownsRow_nil w base _ _, rfl, fun i hi => absurd hi (by simp)⟩
theorem WaysAt.shape {w : World} {base : Nat} {v : Value} {ws : List (List Int)} (h : WaysAt w base v ws) : ∃ a c, v = .slice a ws.length c := let ⟨_, h1, _⟩ := h; own_shape h1
theorem WaysAt.ext {w w' : World} {base : Nat} {v : Value} {ws : List (List Int)} (h : WaysAt w base v ws) (hx : Ext w w') : WaysAt w' base v ws :=
  let ⟨vals, h1, h2, h3⟩ := h; ⟨vals, own_chg h1 (hx.chg fun _ => False) fun _ _ => id, h2, fun i hi => let ⟨a, c, h4, h5⟩ := h3 i hi; ⟨a, c, h4, h5.ext hx⟩⟩
theorem WaysAt.chg {w w' : World} {S : Nat → Prop} {base : Nat} {v : Value} {ws : List (List Int)} (h : WaysAt w base v ws) (hx : Chg S w w') (hs : ∀ k, base ≤ k → ¬ S k) : WaysAt w' base v ws :=
  let ⟨vals, h1, h2, h3⟩ := h; ⟨vals, own_chg h1 hx (fun k hk => hs k (World.ownsRow.lt h1 k hk).1), h2, fun i hi => let ⟨a, c, h4, h5⟩ := h3 i hi; ⟨a, c, h4, own_chg h5 hx (fun k hk => hs k (World.ownsRow.lt h5 k hk).1)⟩⟩
theorem WaysAt.mono {w : World} {base base' : Nat} {v : Value} {ws : List (List Int)} (h : WaysAt w base v ws) (hb : base' ≤ base) : WaysAt w base' v ws :=
  let ⟨vals, h1, h2, h3⟩ := h; ⟨vals, own_mono h1 hb, h2, fun i hi => let ⟨a, c, h4, h5⟩ := h3 i hi; ⟨a, c, h4, own_mono h5 hb⟩⟩
theorem own_type {w : World} {base : Nat} {e : TypeId} {size : Nat} {v : Value} {n : Nat} {xs : List Value} (h : w.ownsRow base e size v n xs) {k : Nat} (hk : v.ownBlock = some k) : ∃ cs, w.heap[k]? = some (.cells cs e (0, 0)) := by
  obtain ⟨-, ⟨e1, -⟩ | ⟨g, cap, cur, e1, -, h3, -⟩⟩ := h
  · rw [e1] at hk; cases hk
  · rw [e1] at hk; cases hk; exact ⟨_, h3⟩
/-- One more, behind an append. -/
theorem WaysAt.snoc {w w' : World} {base : Nat} {v v' : Value} {ws : List (List Int)} {way : List Int} {a : Option Addr} {c : Nat} {vals : List Value} (h1 : w.ownsRow base 25 1 v ws.length vals) (h2 : vals.length = ws.length) (h3 : ∀ i (h : i < ws.length), ∃ a c, vals[i]? = some (.slice a ws[i].length c) ∧ OwnD w base (.slice a ws[i].length c) ws[i]) (hw : OwnD w base (.slice a way.length c) way)
    (hrow : w'.ownsRow base 25 1 v' (ws.length + 1) (vals ++ [.slice a way.length c])) (hx : Chg (fun k => v.ownBlock = some k) w w') : WaysAt w' base v' (ws ++ [way]) := by
  have hne : ∀ {u : Value} {n : Nat} {ys : List Value}, w.ownsRow base 99 1 u n ys → ∀ k, u.ownBlock = some k → ¬ v.ownBlock = some k := by
    intro u n ys hu k hk e
    obtain ⟨_, e1⟩ := own_type hu hk
    obtain ⟨_, e2⟩ := own_type h1 e
    rw [e1] at e2
    cases e2
  refine ⟨vals ++ [.slice a way.length c], by simpa using hrow, by simp [h2], fun i hi => ?_⟩
  by_cases hlt : i < ws.length
  · obtain ⟨a', c', h4, h5⟩ := h3 i hlt
    rw [List.getElem_append_left hlt, List.getElem?_append_left (by omega)]
    exact ⟨a', c', h4, own_chg h5 hx (hne h5)⟩
  · have : i = ws.length := by simp at hi; omega
    subst this
    refine ⟨a, c, ?_, ?_⟩
    · rw [List.getElem?_append_right (by omega)]
      simp [h2]
    · simp only [List.getElem_append_right (Nat.le_refl _), Nat.sub_self, List.getElem_cons_zero]
      exact own_chg hw hx (hne hw)
theorem wnt_bounds {x : Ex} {en : Int} (h : 1 ≤ x.dl ∧ x.dl ≤ x.dh ∧ x.dh ≤ 3) : ∀ d ∈ (wntS x en).1, 1 ≤ d ∧ d ≤ 3 := by
  unfold wntS
  split
  · intro d hd; simp at hd; omega
  · split
    · intro d hd; simp at hd; omega
    · split <;> (intro d hd; simp at hd; omega)
theorem wnt_len (x : Ex) (en : Int) : (wntS x en).1.length ≤ 3 := by
  unfold wntS
  split
  · simp
  · split
    · simp
    · split <;> simp
theorem info_beds : (Try.prog.info? 25).map (fun i => (i.zero, i.size, i.bytes)) = some (some (.slice none 0 0), 1, 24) := by kernel_rfl
/-- While it is asked what is wanted. -/
structure WntG (ds : List Int) (tr : Int) (base : Nat) (L : Nat → Bool) (u : Nat → Value) (W : World) : Prop where
  r6 : L 6 = true → ∃ v, u 6 = .tuple #[v, .int .i64 tr] ∧ OwnI W base v ds
theorem WntG.ext {ds : List Int} {tr : Int} {base : Nat} {L : Nat → Bool} {u : Nat → Value} {W W' : World} (h : WntG ds tr base L u W) (hx : Ext W W') : WntG ds tr base L u W' := ⟨fun e => let ⟨v, h1, h2⟩ := h.r6 e; ⟨v, h1, h2.ext hx⟩⟩
def WntR (n : Nat) (tr : Int) (k : Nat) (v : Value) : Prop := ∃ a c, k = 6 → v = .tuple #[.slice a n c, .int .i64 tr]
end Go.Proofs.Ytmopadnkjlodnaa
