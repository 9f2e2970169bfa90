/-
  Package mean: Visits.
-/
import Derived.Test.YtmopadnkjlodnaaMfc
namespace Go.Proofs.Ytmopadnkjlodnaa
def exL : List Oc → List (Gl × Ex) → List (Gl × Ex)
  | [], l => l
  | o :: D, l => exL D (putL l o.g (addX ((lookL l o.g).getD noEx) o.d o.t))
/-- What is known of the visits that come to a goal. -/
def exS (D : List Oc) (g : Gl) : Option Ex := lookL (exL D []) g
theorem exL_right : ∀ (D E : List Oc) (l : List (Gl × Ex)), (l.map (·.1)).Nodup → OutR l E → OutR (exL D l) (E ++ D)
  | [], E, l, _, h => by rw [List.append_nil]; exact h
  | o :: D, E, l, hn, h => by
    have := exL_right D (E ++ [o]) _ (putL_nodup hn o.g _) (OutR.add hn h o.g o.d o.t)
    rw [List.append_assoc] at this
    exact this
theorem exS_right (D : List Oc) : OutR (exL D []) D := by
  have := exL_right D [] [] (by simp) OutR.nil
  rwa [List.nil_append] at this
theorem OutR.look {l : List (Gl × Ex)} {D : List Oc} (h : OutR l D) (g : Gl) : lookL l g = exS D g := by
  unfold exS
  rcases h g with ⟨h1, h2⟩ | ⟨x, h1, h2⟩ <;> rcases exS_right D g with ⟨k1, k2⟩ | ⟨y, k1, k2⟩
  · rw [h1, k1]
  · obtain ⟨o, m, e, -⟩ := k2.dl
    exact absurd e (h2 o m)
  · obtain ⟨o, m, e, -⟩ := h2.dl
    exact absurd e (k2 o m)
  · rw [h1, k1, h2.uniq k2]
theorem exS_some {D : List Oc} {g : Gl} {x : Ex} (h : exS D g = some x) : IsE g D x := by
  rcases exS_right D g with ⟨k1, -⟩ | ⟨y, k1, k2⟩
  · unfold exS at h
    rw [k1] at h
    cases h
  · unfold exS at h
    rw [k1] at h
    cases h
    exact k2
theorem exS_none {D : List Oc} {g : Gl} (h : exS D g = none) : ∀ o ∈ D, o.g ≠ g := by
  rcases exS_right D g with ⟨-, k2⟩ | ⟨y, k1, -⟩
  · exact k2
  · unfold exS at h
    rw [k1] at h
    cases h
theorem outN_bounds {gin gout : Int} {beds : List Int} {s : Sd} (h : bedsB beds = true) (hs : 0 ≤ s.left) {k : Nat} {n : Nw} (hn : n ∈ levN gin gout beds s k) {o : Oc} (ho : o ∈ outN gin gout beds s k n) : (0 ≤ o.g.score ∧ o.g.score ≤ s.left) ∧ o.d = (k : Int) + 1 ∧ 0 ≤ o.t ∧ o.t ≤ k + 1 := by
  obtain ⟨x, -, hx⟩ := List.mem_flatMap.1 ho
  obtain ⟨-, h3, h4⟩ := lev_bounds h hs k n hn
  have hf : 0 ≤ finI gin gout beds n.left n.inn ∧ finI gin gout beds n.left n.inn ≤ 1 := by unfold finI; split <;> decide
  unfold out1N at hx
  unfold triN at hx
  split at hx
  · rw [List.mem_singleton] at hx
    subst hx
    exact ⟨⟨hs, Int.le_refl _⟩, rfl, by simp only; omega, by simp only; omega⟩
  · split at hx
    · rw [List.mem_singleton] at hx
      subst hx
      exact ⟨⟨Int.le_refl _, hs⟩, rfl, by simp only; omega, by simp only; omega⟩
    · cases hx
theorem outTo_bounds {gin gout : Int} {beds : List Int} {s : Sd} (h : bedsB beds = true) (hs : 0 ≤ s.left) : ∀ (k : Nat) {o : Oc}, o ∈ outTo gin gout beds s k → (0 ≤ o.g.score ∧ o.g.score ≤ s.left) ∧ (1 ≤ o.d ∧ o.d ≤ k) ∧ 0 ≤ o.t ∧ o.t ≤ k
  | 0, o, ho => by cases ho
  | k + 1, o, ho => by
    rcases List.mem_append.1 ho with ho | ho
    · have := outTo_bounds h hs k ho
      refine ⟨this.1, ?_, this.2.2.1, ?_⟩ <;> have := this.2 <;> omega
    · obtain ⟨n, hn, ho⟩ := List.mem_flatMap.1 ho
      have := outN_bounds h hs hn ho
      refine ⟨this.1, ?_, this.2.2.1, ?_⟩ <;> have := this.2 <;> omega
theorem outS_bounds {gin gout : Int} {beds : List Int} {s : Sd} (h : bedsB beds = true) (hs : 0 ≤ s.left) {o : Oc} (ho : o ∈ outS gin gout beds s) : (0 ≤ o.g.score ∧ o.g.score ≤ s.left) ∧ (1 ≤ o.d ∧ o.d ≤ 3) ∧ 0 ≤ o.t ∧ o.t ≤ 3 := by
  rcases List.mem_append.1 ho with ho | ho
  · exact outTo_bounds h hs 3 ho
  · obtain ⟨n, hn, rfl⟩ := List.mem_map.1 ho
    have := lev_bounds h hs 3 n hn
    simp only
    omega
theorem exS_bounds {gin gout : Int} {beds : List Int} {s : Sd} (h : bedsB beds = true) (hs : 0 ≤ s.left) {g : Gl} {x : Ex} (hx : exS (outS gin gout beds s) g = some x) : (0 ≤ g.score ∧ g.score ≤ s.left) ∧ (1 ≤ x.dl ∧ x.dl ≤ x.dh ∧ x.dh ≤ 3) ∧ 0 ≤ x.tl ∧ x.tl ≤ x.th ∧ x.th ≤ 3 := by
  have he := exS_some hx
  obtain ⟨o1, m1, g1, e1⟩ := he.dl
  obtain ⟨o2, m2, g2, e2⟩ := he.dh
  obtain ⟨o3, m3, g3, e3⟩ := he.tl
  obtain ⟨o4, m4, g4, e4⟩ := he.th
  have b1 := outS_bounds h hs m1
  have b2 := outS_bounds h hs m2
  have b3 := outS_bounds h hs m3
  have b4 := outS_bounds h hs m4
  have a1 := he.all o1 m1 g1
  rw [g1] at b1
  exact ⟨b1.1, by omega, by omega⟩
/-- The spans of visits, from some on; or the first one that cannot be. -/
def visG (gin gout : Int) (beds : List Int) : List Sg → List Ex → List Ex × Int × Int
  | [], acc => (acc, 0, 0)
  | x :: l, acc => match exS (outS gin gout beds x.s) x.g with
    | none => ([], acc.length, 7)
    | some e => visG gin gout beds l (acc ++ [e])
def visR (start gin gout : Int) (beds scores : List Int) (won : Bool) : List Ex × Int × Int := visG gin gout beds (goT start scores won scores.length) []
/-- So many of the first visits can be, with these spans. -/
structure VisTo (gin gout : Int) (beds : List Int) (pre : List Sg) (acc : List Ex) : Prop where
  len : acc.length = pre.length
  rest : ∀ l, visG gin gout beds (pre ++ l) [] = visG gin gout beds l acc
  at_ : ∀ (i : Nat) (x : Sg), pre[i]? = some x → acc[i]? = exS (outS gin gout beds x.s) x.g
theorem VisTo.nil (gin gout : Int) (beds : List Int) : VisTo gin gout beds [] [] := ⟨rfl, fun _ => rfl, by simp⟩
theorem VisTo.snoc {gin gout : Int} {beds : List Int} {pre : List Sg} {acc : List Ex} (h : VisTo gin gout beds pre acc) {x : Sg} {e : Ex} (hx : exS (outS gin gout beds x.s) x.g = some e) : VisTo gin gout beds (pre ++ [x]) (acc ++ [e]) :=
  ⟨by simp [h.len], fun l => by
    rw [List.append_assoc, h.rest]
    show visG _ _ _ (x :: l) acc = _
    rw [show visG gin gout beds (x :: l) acc = (match exS (outS gin gout beds x.s) x.g with | none => ([], (acc.length : Int), 7) | some e => visG gin gout beds l (acc ++ [e])) from rfl, hx], fun i y hy => by
    by_cases hi : i < pre.length
    · rw [List.getElem?_append_left hi] at hy
      rw [List.getElem?_append_left (by rw [h.len]; exact hi)]
      exact h.at_ i y hy
    · rw [List.getElem?_append_right (by omega)] at hy
      rw [List.getElem?_append_right (by rw [h.len]; omega)]
      rw [h.len]
      cases hd : i - pre.length with
      | zero => rw [hd] at hy; cases hy; simpa using hx.symm
      | succ k => rw [hd] at hy; simp at hy⟩
theorem VisTo.stop {gin gout : Int} {beds : List Int} {pre : List Sg} {acc : List Ex} (h : VisTo gin gout beds pre acc) {x : Sg} (hx : exS (outS gin gout beds x.s) x.g = none) (l : List Sg) : visG gin gout beds (pre ++ x :: l) [] = ([], (pre.length : Int), 7) := by
  rw [h.rest]
  rw [show visG gin gout beds (x :: l) acc = (match exS (outS gin gout beds x.s) x.g with | none => ([], (acc.length : Int), 7) | some e => visG gin gout beds l (acc ++ [e])) from rfl, hx]
  show ([], (acc.length : Int), 7) = _
  rw [h.len]
theorem VisTo.done {gin gout : Int} {beds : List Int} {pre : List Sg} {acc : List Ex} (h : VisTo gin gout beds pre acc) : visG gin gout beds pre [] = (acc, 0, 0) := by
  have := h.rest []
  rwa [List.append_nil] at this
theorem goT_len (start : Int) (scores : List Int) (won : Bool) (k : Nat) : (goT start scores won k).length = k := by simp [goT]
theorem goT_split (start : Int) (scores : List Int) (won : Bool) (k : Nat) (hk : k < scores.length) : ∃ l, goT start scores won scores.length = goT start scores won k ++ gAt start scores won k :: l := by
  have h1 : (goT start scores won scores.length).take k = goT start scores won k := by
    unfold goT
    rw [← List.map_take, List.take_range, Nat.min_eq_left (by omega)]
  have h2 : k < (goT start scores won scores.length).length := by rw [goT_len]; exact hk
  have h3 : (goT start scores won scores.length)[k] = gAt start scores won k := by simp [goT]
  refine ⟨(goT start scores won scores.length).drop (k + 1), ?_⟩
  rw [← h1, ← h3, ← List.drop_eq_getElem_cons h2, List.take_append_drop]
end Go.Proofs.Ytmopadnkjlodnaa
namespace Go.Proofs.Ytmopadnkjlodnaa
open Go.RowKit Go.BigFrame
attribute [local go_sem] Oper.semAt_some Later.cell Later.frozen Lat.cell Lat.frozen NoX
/-- The four integers of the spans of a visit; a row of them. -/
def Ex.four (x : Ex) : List Value := [.int .i64 x.dl, .int .i64 x.dh, .int .i64 x.tl, .int .i64 x.th]
def OwnX (w : World) (base : Nat) (v : Value) (xs : List Ex) : Prop := w.ownsRow base 45 4 v xs.length (xs.flatMap Ex.four)
theorem info_mv : (Try.prog.info? 45).map (fun i => (i.zero, i.size, i.bytes)) = some (some (.agg #[.int .i64 0, .int .i64 0, .int .i64 0, .int .i64 0]), 4, 32) := by kernel_rfl
theorem OwnX.nil (w : World) (base : Nat) : OwnX w base (.slice none 0 0) [] := World.ownsRow_nil w base _ _
theorem OwnX.chg {w w' : World} {S : Nat → Prop} {base : Nat} {v : Value} {xs : List Ex} (h : OwnX w base v xs) (hx : Chg S w w') (hs : ∀ k, v.ownBlock = some k → ¬ S k) : OwnX w' base v xs := own_chg h hx hs
theorem OwnX.ext {w w' : World} {base : Nat} {v : Value} {xs : List Ex} (h : OwnX w base v xs) (hx : Ext w w') : OwnX w' base v xs := own_chg h (hx.chg fun _ => False) fun _ _ => id
theorem OwnX.shape {w : World} {base : Nat} {v : Value} {xs : List Ex} (h : OwnX w base v xs) : ∃ a c, v = .slice a xs.length c := own_shape h
theorem flatMap_get {α β : Type} {f : α → List β} {m : Nat} (hf : ∀ x, (f x).length = m) : ∀ (l : List α) (i : Nat) (hi : i < l.length) (j : Nat), j < m → (l.flatMap f)[i * m + j]? = (f l[i])[j]?
  | [], i, hi, _, _ => absurd hi (by simp)
  | x :: l, 0, _, j, hj => by
    simp only [List.flatMap_cons, Nat.zero_mul, Nat.zero_add, List.getElem_cons_zero]
    rw [List.getElem?_append_left (by rw [hf]; exact hj)]
  | x :: l, i + 1, hi, j, hj => by
    simp only [List.flatMap_cons, List.getElem_cons_succ]
    rw [List.getElem?_append_right (by rw [hf, Nat.add_mul]; omega), hf, show (i + 1) * m + j - m = i * m + j by rw [Nat.add_mul]; omega]
    exact flatMap_get hf l i (by simpa using hi) j hj
/-- The spans of a visit in a row. -/
theorem OwnX.at {w : World} {base : Nat} {v : Value} {xs : List Ex} (h : OwnX w base v xs) (i : Nat) (hi : i < xs.length) : ∃ g c, v = .slice (some ⟨g, 0, none⟩) xs.length c ∧ base ≤ g ∧ g < w.heap.size ∧ ∀ (j : Nat) (u : Value), xs[i].four[j]? = some u → w.cell? ⟨g, i * 4 + j, none⟩ = some u := by
  have hc := fun g (hg : v.ownBlock = some g) => World.ownsRow.cells (w := w) (g := g) h hg
  have hlt := World.ownsRow.lt h
  obtain ⟨h1, ⟨e, h2⟩ | ⟨g, cap, cur, e, h2, h3, h4⟩⟩ := h
  · omega
  · refine ⟨g, cap, e, h2, (hlt g (by rw [e]; rfl)).2, fun j u hu => ?_⟩
    have hj : j < 4 := (List.getElem?_eq_some_iff.1 hu).1
    have := hc g (by rw [e]; rfl) (i * 4 + j) u (by rw [flatMap_get (m := 4) (fun _ => rfl) xs i hi j hj]; exact hu)
    rw [addr_add, Nat.zero_add] at this
    exact this
/-- While the spans of a visit are looked up. -/
structure VisGh (gin gout : Int) (beds : List Int) (s : Sd) (bf base : Nat) (fl : List (Sd × Nat)) (x : Ex) (L : Nat → Bool) (u : Nat → Value) (W : World) : Prop where
  f0 : L 2 = false → FoundM gin gout beds W bf fl
  f2 : L 2 = true → ∃ n fl', u 2 = .map (some n) ∧ FoundM gin gout beds W bf fl' ∧ GoodM gin gout beds W n s ∧ ∀ y ∈ fl', y ∈ fl ∨ base ≤ y.2
  k9 : L 5 = true → ∃ k, u 5 = .pointer (some ⟨k, 0, none⟩) ∧ base ≤ k ∧ Blk W k (bif L 6 then x.cells else noEx.cells)
theorem VisGh.ext {gin gout : Int} {beds : List Int} {s : Sd} {bf base : Nat} {fl : List (Sd × Nat)} {x : Ex} {L : Nat → Bool} {u : Nat → Value} {W W' : World} (h : VisGh gin gout beds s bf base fl x L u W) (hx : Ext W W') : VisGh gin gout beds s bf base fl x L u W' :=
  ⟨fun e => (h.f0 e).ext hx, fun e => let ⟨n, fl', h1, h2, h3, h4⟩ := h.f2 e; ⟨n, fl', h1, h2.ext hx, h3.chg (hx.chg S0) id, h4⟩, fun e => let ⟨k, h1, h2, h3⟩ := h.k9 e; ⟨k, h1, h2, h3.ext hx⟩⟩
structure VisRh (x : Ex) (k : Nat) (v : Value) : Prop where
  r2 : k = 2 → ∃ n, v = .map (some n)
  r4 : k = 4 → v = x.agg
  r5 : k = 5 → ∃ b, v = .pointer (some ⟨b, 0, none⟩)
def visU (x : Ex) (k : Nat) : Value := if k = 2 then .map (some 0) else if k = 4 then x.agg else .pointer (some ⟨0, 0, none⟩)
theorem visU_R (x : Ex) (k : Nat) : VisRh x k (visU x k) := ⟨by rintro rfl; exact ⟨0, rfl⟩, by rintro rfl; rfl, by rintro rfl; exact ⟨0, rfl⟩⟩
def visN (k : Nat) : Bool := k == 2 || (k == 4 || (k == 5 || k == 6))
/-- Blocks that the loop over the goals makes for itself. -/
def Far (B : Nat) (fl : List (Sd × Nat)) : Prop := ∀ y ∈ fl, y.2 < B ∨ B + 3 ≤ y.2
theorem FoundM.chgN {gin gout : Int} {beds : List Int} {w w' : World} {bf : Nat} {fl : List (Sd × Nat)} {S : Nat → Prop} (h : FoundM gin gout beds w bf fl) (hx : Chg S w w') (hb : ¬ S bf) (hs : ∀ y ∈ fl, ¬ S y.2) : FoundM gin gout beds w' bf fl :=
  ⟨h.map.chg hx hb, fun y hy => ⟨(h.good y hy).1.chg hx (hs y hy), (h.good y hy).2⟩⟩
theorem FoundM.blk {gin gout : Int} {beds : List Int} {w w' : World} {bf b : Nat} {fl : List (Sd × Nat)} {cs : Array Value} (h : FoundM gin gout beds w bf fl) (hb : Blk w b cs) (hx : Chg (· = b) w w') : FoundM gin gout beds w' bf fl := by
  obtain ⟨t, ht⟩ := hb
  refine h.chgN hx (by rintro rfl; exact h.map.notCells ht) (fun y hy => ?_)
  rintro rfl
  obtain ⟨l, h1, -⟩ := (h.good y hy).1
  exact h1.notCells ht
theorem GoodM.blk {gin gout : Int} {beds : List Int} {w w' : World} {n b : Nat} {s : Sd} {cs : Array Value} (h : GoodM gin gout beds w n s) (hb : Blk w b cs) (hx : Chg (· = b) w w') : GoodM gin gout beds w' n s := by
  obtain ⟨t, ht⟩ := hb
  obtain ⟨l, h1, -⟩ := id h
  exact h.chg hx (by rintro rfl; exact h1.notCells ht)
theorem stT_bounds {gin gout start : Int} {beds scores : List Int} {won : Bool} {k : Nat} {acc : List Ex} (h : VisTo gin gout beds (goT start scores won k) acc) (hB : bedsB beds = true) (hs : 0 ≤ start ∧ start ≤ 2000) : ∀ j, j ≤ k → 0 ≤ (stT start scores j).left ∧ (stT start scores j).left ≤ start
  | 0, _ => ⟨hs.1, Int.le_refl _⟩
  | j + 1, hj => by
    have ih := stT_bounds h hB hs j (by omega)
    have hx : (goT start scores won k)[j]? = some (gAt start scores won j) := by
      unfold goT
      rw [List.getElem?_map, List.getElem?_range (by omega)]
      rfl
    have ha := h.at_ j _ hx
    have hlt : j < acc.length := by rw [h.len, goT_len]; omega
    rw [List.getElem?_eq_getElem hlt] at ha
    have hb := (exS_bounds hB ih.1 ha.symm).1
    have e : (stT start scores (j + 1)).left = wrap64 ((stT start scores j).left - scores.getD j 0) := rfl
    have e2 : (gAt start scores won j).g.score = scores.getD j 0 := rfl
    rw [e2] at hb
    rw [e, wrap64_in' ⟨by omega, by omega⟩]
    omega
theorem VisGh.congr {gin gout : Int} {beds : List Int} {s : Sd} {bf base : Nat} {fl : List (Sd × Nat)} {x : Ex} {L L' : Nat → Bool} {u u' : Nat → Value} {W : World} (h : VisGh gin gout beds s bf base fl x L u W) (e2 : L' 2 = L 2) (e5 : L' 5 = L 5) (e6 : L' 6 = L 6) (f2 : u' 2 = u 2) (f5 : u' 5 = u 5) : VisGh gin gout beds s bf base fl x L' u' W :=
  ⟨fun e => h.f0 (e2 ▸ e), fun e => let ⟨n, fl', h1, h2⟩ := h.f2 (e2 ▸ e); ⟨n, fl', f2.trans h1, h2⟩, fun e => let ⟨k, h1, h2, h3⟩ := h.k9 (e5 ▸ e); ⟨k, f5.trans h1, h2, by rw [e6]; exact h3⟩⟩
theorem kc_map {κ ν : Type} {ek : κ → Value} {ev : ν → Value} {w W : World} {b : Nat} {l : List (κ × ν)} (h : MapL ek ev w b l) (hc : Chg (· = b) w W) : Kc S0 w W :=
  ⟨hc.size, fun _ _ _ _ hk _ => hc.heap hk (by rintro rfl; exact h.notCells hk)⟩
theorem five_set {w : World} {b : Nat} {v0 v1 v2 v3 v4 : Value} (h : Blk w b #[v0, v1, v2, v3, v4]) (x0 x1 x2 x3 x4 : Value) : Blk (((((w.setCell ⟨b, 0, none⟩ x0).setCell ⟨b, 1, none⟩ x1).setCell ⟨b, 2, none⟩ x2).setCell ⟨b, 3, none⟩ x3).setCell ⟨b, 4, none⟩ x4) b #[x0, x1, x2, x3, x4] := by
  have h0 : Blk _ b #[x0, v1, v2, v3, v4] := h.set 0 x0
  have h1 : Blk _ b #[x0, x1, v2, v3, v4] := h0.set 1 x1
  have h2 : Blk _ b #[x0, x1, x2, v3, v4] := h1.set 2 x2
  have h3 : Blk _ b #[x0, x1, x2, x3, v4] := h2.set 3 x3
  have h4 : Blk _ b #[x0, x1, x2, x3, x4] := h3.set 4 x4
  exact h4
theorem five_chg (S : Nat → Prop) (w : World) {b : Nat} (hb : S b) (x0 x1 x2 x3 x4 : Value) : Chg S w (((((w.setCell ⟨b, 0, none⟩ x0).setCell ⟨b, 1, none⟩ x1).setCell ⟨b, 2, none⟩ x2).setCell ⟨b, 3, none⟩ x3).setCell ⟨b, 4, none⟩ x4) :=
  (((((Chg.refl S w).setCell (.inr hb) x0).setCell (.inr hb) x1).setCell (.inr hb) x2).setCell (.inr hb) x3).setCell (.inr hb) x4
theorem FoundM.blks {gin gout : Int} {beds : List Int} {w w' : World} {bf : Nat} {fl : List (Sd × Nat)} {S : Nat → Prop} (h : FoundM gin gout beds w bf fl) (hS : ∀ k, S k → ∃ cs, Blk w k cs) (hx : Chg S w w') : FoundM gin gout beds w' bf fl :=
  h.chgN hx (fun e => let ⟨_, _, ht⟩ := hS _ e; h.map.notCells ht) (fun y hy e => let ⟨_, _, ht⟩ := hS _ e; let ⟨_, h1, _⟩ := (h.good y hy).1; h1.notCells ht)
theorem three_out {w : World} {b : Nat} {v0 v1 v2 : Value} (h0 : Blk w b #[v0]) (h1 : Blk w (b + 1) #[v1]) (h2 : Blk w (b + 1 + 1) #[v2]) (x0 x1 x2 : Value) :
    Blk (((w.setCell ⟨b, 0, none⟩ x0).setCell ⟨b + 1, 0, none⟩ x1).setCell ⟨b + 1 + 1, 0, none⟩ x2) b #[x0] ∧ Blk (((w.setCell ⟨b, 0, none⟩ x0).setCell ⟨b + 1, 0, none⟩ x1).setCell ⟨b + 1 + 1, 0, none⟩ x2) (b + 1) #[x1] ∧ Blk (((w.setCell ⟨b, 0, none⟩ x0).setCell ⟨b + 1, 0, none⟩ x1).setCell ⟨b + 1 + 1, 0, none⟩ x2) (b + 1 + 1) #[x2] ∧
    Chg (fun k => k = b ∨ k = b + 1 ∨ k = b + 1 + 1) w (((w.setCell ⟨b, 0, none⟩ x0).setCell ⟨b + 1, 0, none⟩ x1).setCell ⟨b + 1 + 1, 0, none⟩ x2) :=
  ⟨((h0.set 0 x0).other (by simp) x1).other (by simp; omega) x2, ((h1.other (by simp) x0).set 0 x1).other (by simp) x2, ((h2.other (by simp; omega) x0).other (by simp) x1).set 0 x2,
    (((Chg.refl _ w).setCell (.inr (.inl rfl)) x0).setCell (.inr (.inr (.inl rfl))) x1).setCell (.inr (.inr (.inr rfl))) x2⟩
theorem RdI.below {S T : Nat → Prop} {w : World} {v : Value} {xs : List Int} (h : RdI S w v xs) (hT : ∀ k, T k → S k ∨ w.heap.size ≤ k) : RdI T w v xs := by
  rcases h with h | ⟨b, o, c, cs, t, f, h1, h2, h3, h4, h5, h6⟩
  · exact .inl h
  · refine .inr ⟨b, o, c, cs, t, f, h1, h2, h3, fun e => ?_, h5, h6⟩
    rcases hT b e with e | e
    · exact h4 e
    · have := (Array.getElem?_eq_some_iff.1 h5).1
      omega
theorem Kc.mono {S T : Nat → Prop} {A B : World} (h : Kc S A B) (hs : ∀ k, S k → T k) : Kc T A B := ⟨h.size, fun k cs t f hk hn => h.keep k cs t f hk (fun e => hn (hs k e))⟩
theorem kf_cells {S : Nat → Prop} {w W : World} {base : Nat} (h : Chg S w W) (hs : ∀ k, S k → ∃ cs, Blk w k cs) : KeepsFrom base w W :=
  ⟨h.size, fun k o _ hk ho => h.heap hk (fun e => by obtain ⟨cs, t, ht⟩ := hs k e; rw [hk] at ht; cases ht; cases ho)⟩
theorem Shut.blk {lo : Nat} {A B : World} (h : Shut lo A B) {b : Nat} {cs : Array Value} (hb : Blk A b cs) : Blk B b cs := let ⟨t, ht⟩ := hb; ⟨t, h.heap ht (fun e => by cases e)⟩
theorem Shut.own {lo : Nat} {A B : World} (h : Shut lo A B) {base : Nat} {e : TypeId} {size : Nat} {v : Value} {n : Nat} {xs : List Value} (ho : A.ownsRow base e size v n xs) : B.ownsRow base e size v n xs := by
  obtain ⟨h1, h2 | ⟨g, cap, cur, e1, h2, h3, h4⟩⟩ := ho
  · exact ⟨h1, .inl h2⟩
  · exact ⟨h1, .inr ⟨g, cap, cur, e1, h2, h.heap h3 (fun e => by cases e), h4⟩⟩
theorem Marks.one {lo : Nat} {w : World} {D : Nat} (hl : lo ≤ D) (hk : w.heap[D]? = some (.deferred (some []))) : Marks lo w [D] := (Marks.nil lo w).cons (by simp) hl hk
end Go.Proofs.Ytmopadnkjlodnaa
namespace Go.Proofs.Ytmopadnkjlodnaa
open Go.RowKit Go.BigFrame
attribute [local go_sem] Oper.semAt_some Later.cell Later.frozen Lat.cell Lat.frozen NoX
/-- Between two visits; behind one that cannot be. -/
structure VisI (gin gout : Int) (beds : List Int) (bf K4 : Nat) (w2 : World) (pre : List Sg) (W : World) : Prop where
  ex : ∃ acc v fl', VisTo gin gout beds pre acc ∧ OwnX W (w2.heap.size + 3) v acc ∧ Blk W K4 #[v] ∧ FoundM gin gout beds W bf fl' ∧ Far w2.heap.size fl'
  chg : Chg (fun k => k = bf ∨ k = K4) w2 W
structure VisX (gin gout : Int) (beds : List Int) (RV : List Ex × Int × Int) (bf K4 : Nat) (w2 : World) (c : Code) (pre : List Sg) (W : World) : Prop where
  c : c = .ret
  ex : ∃ fl', Blk W K4 #[.slice none 0 0] ∧ Blk W (K4 + 1) #[.int .i64 ((pre.length : Int) - 1)] ∧ Blk W (K4 + 1 + 1) #[.int .i64 7] ∧ FoundM gin gout beds W bf fl' ∧ Far w2.heap.size fl'
  bad : RV = ([], (pre.length : Int) - 1, 7)
  chg : Chg (fun k => k = bf ∨ k = K4 ∨ k = K4 + 1 ∨ k = K4 + 1 + 1) w2 W
theorem VisI.abc {gin gout : Int} {beds : List Int} {bf K4 : Nat} {w2 : World} (h1 : K4 < w2.heap.size) (h2 : bf < w2.heap.size) : AbC w2.heap.size (2 + 1) (VisI gin gout beds bf K4 w2) := by
  rintro pre A B row ⟨⟨acc, v, fl', a1, a2, a3, a4, a5⟩, hc⟩ hg hr
  have hx := grown_chg hg
  refine ⟨⟨acc, v, fl', a1, a2.chg hx ?_, a3.chg hx ?_, a4.chgN hx ?_ ?_, a5⟩, chgm_grown hc hg (fun r e => (hr r e).1)⟩
  · intro k hk e
    have := (World.ownsRow.lt a2 k hk).1
    have := hr k e
    omega
  · intro e
    have := hr _ e
    omega
  · intro e
    have := hr _ e
    omega
  · intro y hy e
    have := hr _ e
    have := a5 y hy
    omega
theorem VisI.ext {gin gout : Int} {beds : List Int} {bf K4 : Nat} {w2 W W' : World} {pre : List Sg} (h : VisI gin gout beds bf K4 w2 pre W) (hx : Ext W W') : VisI gin gout beds bf K4 w2 pre W' :=
  let ⟨acc, v, fl', a1, a2, a3, a4, a5⟩ := h.ex; ⟨⟨acc, v, fl', a1, a2.ext hx, a3.ext hx, a4.ext hx, a5⟩, h.chg.ext' hx⟩
theorem VisX.abc {gin gout : Int} {beds : List Int} {RV : List Ex × Int × Int} {bf K4 : Nat} {w2 : World} (h1 : K4 + 1 + 1 < w2.heap.size) (h2 : bf < w2.heap.size) (c : Code) : AbC w2.heap.size (2 + 1) (VisX gin gout beds RV bf K4 w2 c) := by
  rintro pre A B row ⟨e0, ⟨fl', a1, a2, a3, a4, a5⟩, hb, hc⟩ hg hr
  have hx := grown_chg hg
  refine ⟨e0, ⟨fl', a1.chg hx ?_, a2.chg hx ?_, a3.chg hx ?_, a4.chgN hx ?_ ?_, a5⟩, hb, chgm_grown hc hg (fun r e => (hr r e).1)⟩
  iterate 4 (intro e; have := hr _ e; omega)
  intro y hy e
  have := hr _ e
  have := a5 y hy
  omega
/-- The stand and the goal of a visit lie in memory. -/
structure VisA (f : Nat → Nat → Array Value) (B : Nat) (x : Sg) (a' : Act) (W : World) : Prop where
  ex : ∃ k7 k8, a' = { tmps := f k7 k8, defers := [] } ∧ B + 3 ≤ k7 ∧ B + 3 ≤ k8 ∧ Blk W k7 #[.int .i64 x.s.left, .bool x.s.inn] ∧ Blk W k8 #[.int .i64 x.g.score, .bool x.g.wins]
theorem VisA.abc (f : Nat → Nat → Array Value) (B : Nat) (x : Sg) (a' : Act) : AbC B (2 + 1) (fun (_ : Unit) W => VisA f B x a' W) := by
  rintro u A C row ⟨k7, k8, e, h1, h2, h3, h4⟩ hg hr
  have hx := grown_chg hg
  exact ⟨k7, k8, e, h1, h2, h3.chg hx (fun e => by have := hr _ e; omega), h4.chg hx (fun e => by have := hr _ e; omega)⟩
set_option maxRecDepth 100000 in
set_option maxHeartbeats 8000000 in
theorem mean_visits (start gin gout : Int) (beds : List Int) (ba : Option Addr) (bc kb bf : Nat) (fl : List (Sd × Nat)) (scores : List Int) (sa : Option Addr) (sc : Nat) (won : Bool) (w : World)
    (hb : Blk w kb #[.int .i64 start, .int .i64 gin, .int .i64 gout, .slice ba beds.length bc, .map (some bf)]) (hR : RdI S0 w (.slice ba beds.length bc) beds) (hl : beds.length ≤ 100) (hB : bedsB beds = true) (hs : 0 ≤ start ∧ start ≤ 2000) (hf : FoundM gin gout beds w bf fl) (hSc : RdI S0 w (.slice sa scores.length sc) scores) (hn : scores.length ≤ 1000) :
    Calls Try.prog 51 #[.pointer (some ⟨kb, 0, none⟩), .agg #[.int .i64 start, .int .i64 gin, .int .i64 gout, .slice ba beds.length bc, .slice sa scores.length sc, .bool won]] w fun e w' => ∃ v fl', e = .returned (.tuple #[v, .int .i64 (visR start gin gout beds scores won).2.1, .int .i64 (visR start gin gout beds scores won).2.2]) ∧ OwnX w' w.heap.size v (visR start gin gout beds scores won).1 ∧ FoundM gin gout beds w' bf fl' ∧ Chg (· = bf) w w' := by
  obtain ⟨RV, hRV⟩ : ∃ r, visR start gin gout beds scores won = r := ⟨_, rfl⟩
  rw [hRV]
  refine (callsIn_wide (n := 8)).1 ?_
  have HRV := Lib.hid hRV
  have HB := Lib.hid hb
  have HR := Lib.hid hR
  have HBD := Lib.hid hB
  have HF := Lib.hid hf
  have HLB := Lib.hid hl
  have HSB := Lib.hid hs
  have HSC := Lib.hid hSc
  have HLS := Lib.hid hn
  have hbf := hf.map.lt
  clear hRV hb hR hB hf hl hs hSc hn
  refine callsIn_of_wp_marks Try.func51 rfl trivial ?_ rfl
  simp only [Try.ntmps51, List.size_toArray, List.length_cons, List.length_nil, Nat.reduceAdd, Nat.reduceSub, Array.replicate_succ, Array.replicate_zero, List.push_toArray, List.append_toArray, List.nil_append, List.cons_append]
  gi_upto_region 1 with fail
  generalize hw1 : World.alloc (World.alloc (World.alloc (World.alloc (World.alloc w _) _) _) _) _ = w1
  obtain ⟨B, hBB⟩ : ∃ y, y = w.heap.size := ⟨_, rfl⟩
  rw [← hBB]
  have hx1 : Ext w w1 := by rw [← hw1]; exact (((((Ext.refl w).alloc _).alloc _).alloc _).alloc _).alloc _
  have H2 : Hid (Blk w1 B #[.pointer (some ⟨kb, 0, none⟩)]) := Lib.hid (by rw [← hw1, hBB]; exact ((((Blk.new w _ _).alloc _).alloc _).alloc _).alloc _)
  have H3 : Hid (Blk w1 (B + 1) #[.int .i64 start, .int .i64 gin, .int .i64 gout, .slice ba beds.length bc, .slice sa scores.length sc, .bool won]) := Lib.hid (by rw [← hw1]; exact (((Blk.at _ (by simp [hBB])).alloc _).alloc _).alloc _)
  have H4 : Hid (Blk w1 (B + 1 + 1) #[.slice none 0 0]) := Lib.hid (by rw [← hw1]; exact ((Blk.at _ (by simp [hBB])).alloc _).alloc _)
  have H5 : Hid (Blk w1 (B + 1 + 1 + 1) #[.int .i64 0]) := Lib.hid (by rw [← hw1]; exact (Blk.at _ (by simp [hBB])).alloc _)
  have H6 : Hid (Blk w1 (B + 1 + 1 + 1 + 1) #[.int .i64 0]) := Lib.hid (by rw [← hw1]; exact (Blk.at _ (by simp [hBB])))
  have HX1 := Lib.hid hx1
  have HBB := Lib.hid hBB
  clear hw1 hx1 hBB
  have l0 := H3.out.cell 0 (v := .int .i64 start) rfl
  have l1 := H3.out.cell 1 (v := .int .i64 gin) rfl
  have l2 := H3.out.cell 2 (v := .int .i64 gout) rfl
  have l3 := H3.out.cell 3 (v := .slice ba beds.length bc) rfl
  have l4 := H3.out.cell 4 (v := .slice sa scores.length sc) rfl
  have l5 := H3.out.cell 5 (v := .bool won) rfl
  have ll := H3.out.lt
  gi_wp2_with fail
  refine ⟨trivial, (callsIn_wide.2 (mean_goals start gin gout ba sa beds.length bc scores.length sc won w1)).mono ?_⟩
  rintro e w2 ⟨B1, rfl, hB1, hb1, hx2⟩
  have HB1 := Lib.hid hb1
  have HX2 := Lib.hid hx2
  clear l0 l1 l2 l3 l4 l5 ll hb1 hx2
  gi_wp2
  have HSEQ := Lib.hid (goals_seq (fun q => q = B + 1 + 1 ∨ w2.heap.size + 3 ≤ q) 7 start gin gout (.slice ba beds.length bc) scores sa sc won B1 w2 ⟨_, _, _, rfl⟩ HB1.out ((HSC.out.below (fun q hq => .inr (by have h1 := HBB.out; have h2 := HX1.out.size; have h3 := HX2.out.size; omega))).keep (Kc.of_ext (HX1.out.trans HX2.out))) HLS.out (by have := H4.out.lt; have := HX2.out.size; omega) (by have := H4.out.lt; have := HB1.out.lt; omega))
  have HF2 := Lib.hid (HF.out.ext (HX1.out.trans HX2.out))
  have hsz : B + 1 + 1 + 1 + 1 < w2.heap.size := Nat.lt_of_lt_of_le H6.out.lt HX2.out.size
  have hb2 : bf < B := by rw [HBB.out]; exact hbf
  have HSZ := Lib.hid (And.intro hsz hb2)
  clear hsz hb2 hbf
  refine wpIn_rangeFunc_w (α := Sg) (by decide) (gf := 79) (fb := #[]) (lb := #[.pointer (some ⟨B1, 0, none⟩)]) rfl enters_goals1 HSEQ.out Kc.trans (fun W l o o' _ h ho _ => Kc.put _ W l o o' h ho) (fun _ => rfl)
    (VisI gin gout beds bf (B + 1 + 1) w2) (VisX gin gout beds RV bf (B + 1 + 1) w2) (VisI.abc (by have := HSZ.out; omega) (by have := HSZ.out; omega)) (VisX.abc (by have := HSZ.out; omega) (by have := HSZ.out; omega))
    ?hV ?h0 (fun x => VisA (fun k7 k8 => #[.pointer (some ⟨kb, 0, none⟩), .agg #[.int .i64 start, .int .i64 gin, .int .i64 gout, .slice ba beds.length bc, .slice sa scores.length sc, .bool won], .pointer (some ⟨B, 0, none⟩), .pointer (some ⟨B + 1, 0, none⟩), .pointer (some ⟨B + 1 + 1, 0, none⟩), .pointer (some ⟨B + 1 + 1 + 1, 0, none⟩), .pointer (some ⟨B + 1 + 1 + 1 + 1, 0, none⟩), .pointer (some ⟨k7, 0, none⟩), .pointer (some ⟨k8, 0, none⟩), undef, .agg #[.int .i64 start, .int .i64 gin, .int .i64 gout, .slice ba beds.length bc, .slice sa scores.length sc, .bool won], .func (.func 79) #[] #[.pointer (some ⟨B1, 0, none⟩)], .agg #[.int .i64 x.s.left, .bool x.s.inn], .agg #[.int .i64 x.g.score, .bool x.g.wins], undef, undef, undef, undef, undef, undef, undef, undef, undef, undef, undef, undef, undef, undef, undef, undef]) w2.heap.size x) (fun x => VisA.abc _ _ x) ?assign ?body ?done ?stop
  case hV =>
    rintro pre x u A C row ⟨h1, h2⟩ hg hr
    exact ⟨h1, Nat.le_trans h2 hg.size⟩
  case h0 => exact ⟨⟨[], _, fl, VisTo.nil _ _ _, OwnX.nil _ _, H4.out.ext HX2.out, HF2.out, fun y hy => .inl (HF2.out.good y hy).1.lt⟩, Chg.refl _ _⟩
  case assign =>
    intro l pre x W K hi hv hK
    have HI := Lib.hid hi
    have HV := Lib.hid hv
    have HKK := Lib.hid hK
    clear hi hv hK
    obtain ⟨⟨sl, si⟩, ⟨gs, gw⟩⟩ := x
    dsimp only [Sd.agg, Gl.agg]
    gi_wp2
    have hx : Ext W ((W.alloc (.cells #[.int .i64 sl, .bool si] 119)).alloc (.cells #[.int .i64 gs, .bool gw] 121)) := ((Ext.refl W).alloc _).alloc _
    have hvs := HV.out.2
    refine HKK.out _ _ (kf_chg (hx.chg S0) (fun k hk => hk.elim)) (Kc.of_ext hx) (HI.out.ext hx) ⟨HV.out.1, Nat.le_trans hvs hx.size⟩ ⟨_, _, rfl, hvs, by omega, (Blk.new _ _ _).alloc _, Blk.at _ (by simp)⟩
  case body =>
    rintro l pre x a' W hi hv ⟨k7, k8, rfl, hk7, hk8, hb7, hb8⟩
    obtain ⟨⟨acc, v, fl1, hvt, hown, hb4, hfm, hfar⟩, hchg⟩ := hi
    obtain ⟨⟨k, hk, hpre, hx⟩, hsz⟩ := hv
    obtain ⟨va, vc, rfl⟩ := hown.shape
    have HVT := Lib.hid hvt
    have HOWN := Lib.hid hown
    have HB4 := Lib.hid hb4
    have HFM := Lib.hid hfm
    have HFAR := Lib.hid hfar
    have HCHG := Lib.hid hchg
    have HK := Lib.hid (And.intro hk (And.intro hpre hx))
    have HWS := Lib.hid hsz
    have HB7 := Lib.hid hb7
    have HB8 := Lib.hid hb8
    have HK78 := Lib.hid (And.intro hk7 hk8)
    clear hvt hown hb4 hfm hfar hchg hk hpre hx hsz hb7 hb8 hk7 hk8
    obtain ⟨⟨sl, si⟩, ⟨gs, gw⟩⟩ := x
    simp only at HB7 HB8
    have hls : 0 ≤ sl ∧ sl ≤ 2000 := by
      have h1 := HK.out.2.1
      have h2 : (⟨⟨sl, si⟩, ⟨gs, gw⟩⟩ : Sg) = gAt start scores won k := HK.out.2.2
      have h3 := HVT.out
      rw [h1] at h3
      have h4 := stT_bounds h3 HBD.out HSB.out k (Nat.le_refl _)
      have h5 : sl = (stT start scores k).left := congrArg (fun y : Sg => y.s.left) h2
      have h6 := HSB.out
      rw [h5]
      omega
    have HLS2 := Lib.hid hls
    obtain ⟨xo, hxo⟩ : ∃ y, exS (outS gin gout beds ⟨sl, si⟩) ⟨gs, gw⟩ = y := ⟨_, rfl⟩
    obtain ⟨xe, hxe⟩ : ∃ y, xo.getD noEx = y := ⟨_, rfl⟩
    have HLK : Hid (∀ W n, GoodM gin gout beds W n ⟨sl, si⟩ → (Instr.lookup 159 (.map (some n)) (.agg #[.int .i64 gs, .bool gw]) false).run Try.prog W = .ok (.agg #[.int .i64 xe.dl, .int .i64 xe.dh, .int .i64 xe.tl, .int .i64 xe.th, .bool xe.some]) W) := Lib.hid (fun W n ⟨lm, hm, ho⟩ => by
      have := (run_look keyL_goal under_out hm trivial (zero_ext W) ⟨gs, gw⟩).1
      unfold Gl.agg at this
      rw [this]
      congr 1
      rw [ho.look, hxo, ← hxe]
      cases xo <;> rfl)
    have HXO := Lib.hid hxo
    have HXE := Lib.hid hxe
    have HCW : Hid (Chg (· = bf) w W) := Lib.hid ((((HX1.out.trans HX2.out).chg (· = bf))).far HCHG.out (fun j hj => by
      rcases hj with h | h
      · exact .inl h
      · exact .inr (by have := HBB.out; omega)))
    have HKW := Lib.hid (kc_map HF.out.map HCW.out)
    have kY : ∀ {b cs}, Blk W b cs → b ≠ bf → ∀ y : Lat (fun b _ => b = bf) W, Blk y.world b cs := fun h hb y => h.chg y.chg (by rintro ⟨_, e⟩; exact hb e)
    have HCY : Hid (∀ y : Lat (fun b _ => b = bf) W, Chg (· = bf) W y.world) := Lib.hid (fun y => y.chg.mono (by rintro q - ⟨_, e⟩; exact e))
    have hBW : Blk W B #[.pointer (some ⟨kb, 0, none⟩)] := (H2.out.ext HX2.out).chg HCHG.out (by have := HSZ.out; omega)
    have y0 := fun y => (kY hBW (by have := HSZ.out; omega) y).cell 0 (v := .pointer (some ⟨kb, 0, none⟩)) rfl
    have y1 := fun y => (kY HB7.out (by have := HSZ.out; have := HK78.out; omega) y).cell 0 (v := .int .i64 sl) rfl
    have y2 := fun y => (kY HB7.out (by have := HSZ.out; have := HK78.out; omega) y).cell 1 (v := .bool si) rfl
    have y3 := fun y => (kY HB8.out (by have := HSZ.out; have := HK78.out; omega) y).cell 0 (v := .int .i64 gs) rfl
    have y4 := fun y => (kY HB8.out (by have := HSZ.out; have := HK78.out; omega) y).cell 1 (v := .bool gw) rfl
    have yl0 := hBW.lt
    have yl1 := HB7.out.lt
    have yl2 := HB8.out.lt
    have hbW : bf < W.heap.size := HFM.out.map.lt
    have HBFW := Lib.hid hbW
    clear kY hls hxo hxe hBW hbW
    gi_upto_region 4 with fail
    refine wpIn_lat_r l (by kernel_rfl) (by kernel_rfl) (fun b _ => b = bf) visN (VisRh xe) (VisGh gin gout beds ⟨sl, si⟩ bf W.heap.size fl1 xe) (by kernel_rfl)
      (fun k hk => by
        simp only [visN, Bool.or_eq_true, beq_iff_eq] at hk
        rcases hk with rfl | rfl | rfl | rfl <;> decide)
      (fun L L' u w' h hg => hg.congr (h 2 rfl) (h 5 rfl) (h 6 rfl) rfl rfl) (fun L u a b h hx => h.ext hx) (visU xe) (fun k _ => visU_R xe k) ⟨fun _ => HFM.out.ext (Ext.refl W).drew, fun h => (by cases h), fun h => (by cases h)⟩ ?_
    intro T hT hne2 u hu
    obtain ⟨nn, e2⟩ := (hu 2 rfl).r2 rfl
    have e4 : u 4 = .agg #[.int .i64 xe.dl, .int .i64 xe.dh, .int .i64 xe.tl, .int .i64 xe.th, .bool xe.some] := (hu 4 rfl).r4 rfl
    obtain ⟨k9, e5⟩ := (hu 5 rfl).r5 rfl
    refine lx_next 2 (by rfl) (by decide) ?_
    dsimp only [List.take, List.drop]
    repeat (go_big_quiet_step (fail))
    refine wpQuiet_nil ?_
    refine lx_loud (by rfl) (by kernel_rfl) ?_ (fun K hK => ?_)
    · intro L w4 hL hd hcl hC hs
      obtain ⟨y, rfl⟩ := hC
      have HS := Lib.hid hs
      have HL := Lib.hid hL
      have HCWY := Lib.hid (HCW.out.trans (HCY.out y))
      have HKWY := Lib.hid (kc_map HF.out.map HCWY.out)
      have hyS := y.size
      clear hs hL hd hcl
      go_wp2_with fail
      refine (mean_from start gin gout beds ba bc kb bf fl1 ⟨sl, si⟩ y.world (HKWY.out.blk HB.out id) (HR.out.keep HKWY.out) HLB.out HBD.out HLS2.out (HS.out.f0 HL.out)).mono ?_
      rintro e w5 ⟨n, fl', rfl, hf', hg', hp', hc'⟩
      have HFP := Lib.hid hf'
      have HGP := Lib.hid hg'
      have HPP := Lib.hid hp'
      have HCP := Lib.hid hc'
      clear hf' hg' hp' hc'
      go_wp2
      refine ⟨⟨fun _ => ⟨_, rfl⟩, fun h => absurd h (by decide), fun h => absurd h (by decide)⟩, ⟨y.chgd HCP.out (fun b hb => .inr fun _ => hb), rfl⟩, ⟨fun h => absurd h (by simp [upd]), fun _ => ⟨n, fl', rfl, HFP.out, HGP.out, fun z hz => (HPP.out z hz).imp id (fun h => Nat.le_trans hyS h)⟩, fun h5 => ?_⟩⟩
      obtain ⟨k, h1, h2, h3⟩ := HS.out.k9 h5
      exact ⟨k, h1, h2, h3.chg HCP.out (by have := HBFW.out; omega)⟩
    rw [e2]
    go_simp
    with_reducible refine hK _ ?_
    clear hK K
    refine lx_next 1 (by rfl) (by decide) ?_
    dsimp only [List.take, List.drop]
    repeat (go_big_quiet_step (fail))
    refine wpQuiet_nil ?_
    refine lx_loud (by rfl) (by kernel_rfl) ?_ (fun K hK => ?_)
    · intro L w4 hL hd hcl hC hs
      obtain ⟨y, rfl⟩ := hC
      obtain ⟨n, fl', en, hf', hg', hp'⟩ := hs.f2 (hd 2 (by kernel_rfl))
      obtain rfl : n = nn := by have h := en.symm.trans e2; cases h; rfl
      have hlk := HLK.out y.world n hg'
      have HS := Lib.hid hs
      clear hs hf' hg' hp' hL hd hcl en
      go_wp2
      exact ⟨⟨fun h => absurd h (by decide), fun _ => rfl, fun h => absurd h (by decide)⟩, ⟨y, rfl⟩, HS.out.congr rfl rfl rfl rfl rfl⟩
    rw [e4]
    go_simp
    with_reducible refine hK _ ?_
    clear hK K
    refine lx_loud (by rfl) (by kernel_rfl) ?_ (fun K hK => ?_)
    · intro L w4 hL hd hcl hC hs
      obtain ⟨y, rfl⟩ := hC
      have h6 := hcl.off hL 40 6 (by kernel_rfl)
      have HS := Lib.hid hs
      have hx : Ext y.world (y.world.alloc (.cells #[.int .i64 0, .int .i64 0, .int .i64 0, .int .i64 0, .bool false] 158)) := (Ext.refl _).alloc _
      have hy := y.size
      clear hs hL hd hcl
      go_wp2
      have hs' := HS.out.ext hx
      refine ⟨⟨fun h => absurd h (by decide), fun h => absurd h (by decide), fun _ => ⟨_, rfl⟩⟩, ⟨y.ext hx, rfl⟩, ⟨fun h => hs'.f0 h, fun h => hs'.f2 h, fun _ => ⟨y.world.heap.size, rfl, hy, ?_⟩⟩⟩
      rw [show upd L 5 6 = L 6 from rfl, h6]
      exact Blk.new _ _ _
    rw [e5]
    go_simp
    with_reducible refine hK _ ?_
    clear hK K
    refine lx_loud (by rfl) (by kernel_rfl) ?_ (fun K hK => ?_)
    · intro L w4 hL hd hcl hC hs
      obtain ⟨y, rfl⟩ := hC
      have H2L := Lib.hid (hd 2 (by kernel_rfl))
      obtain ⟨n, fl', en, hf', hg', hp'⟩ := hs.f2 H2L.out
      obtain ⟨k, ek, hk, hbk⟩ := hs.k9 (hd 5 (by kernel_rfl))
      obtain rfl : k = k9 := by have h := ek.symm.trans e5; cases h; rfl
      rw [hL] at hbk
      have hbk : Blk y.world k #[.int .i64 0, .int .i64 0, .int .i64 0, .int .i64 0, .bool false] := hbk
      have r0 := hbk.cell 0 (v := .int .i64 0) rfl
      have r1 := hbk.cell 1 (v := .int .i64 0) rfl
      have r2 := hbk.cell 2 (v := .int .i64 0) rfl
      have r3 := hbk.cell 3 (v := .int .i64 0) rfl
      have r4 := hbk.cell 4 (v := .bool false) rfl
      have rl := hbk.lt
      have rf0 := hbk.frozen 0
      have rf1 := hbk.frozen 1
      have rf2 := hbk.frozen 2
      have rf3 := hbk.frozen 3
      have rf4 := hbk.frozen 4
      have HBK := Lib.hid hbk
      have HHK := Lib.hid hk
      have HFP := Lib.hid hf'
      have HGP := Lib.hid hg'
      have HPP := Lib.hid hp'
      have HEN := Lib.hid en
      have HEK := Lib.hid ek
      have hbW := HBFW.out
      have hc5 := Lib.hid (fun v0 v1 v2 v3 v4 => five_chg (· = k) y.world (b := k) rfl v0 v1 v2 v3 v4)
      clear hs hL hd hcl hbk hk hf' hg' hp' en ek
      go_wp2
      refine ⟨⟨fun h => absurd h (by decide), fun h => absurd h (by decide), fun h => absurd h (by decide)⟩, ⟨y.chgd (hc5.out _ _ _ _ _) (fun b hb => .inl (by rw [show b = k from hb]; exact HHK.out)), rfl⟩, ⟨fun h => absurd h (by rw [show upd L 6 2 = L 2 from rfl, H2L.out]; simp), fun _ => ⟨n, fl', HEN.out, HFP.out.blk HBK.out (hc5.out _ _ _ _ _), HGP.out.blk HBK.out (hc5.out _ _ _ _ _), HPP.out⟩, fun _ => ⟨k, HEK.out, HHK.out, five_set HBK.out _ _ _ _ _⟩⟩⟩
    go_simp
    with_reducible refine hK _ ?_
    clear hK K
    refine lx_nil ?_
    intro y hs
    obtain ⟨n, fl', -, hf', hg', hp'⟩ := hs.f2 rfl
    obtain ⟨kx, ek, hk, hbk⟩ := hs.k9 rfl
    obtain rfl : kx = k9 := by have h := ek.symm.trans e5; cases h; rfl
    have hbk : Blk y.world kx #[.int .i64 xe.dl, .int .i64 xe.dh, .int .i64 xe.tl, .int .i64 xe.th, .bool xe.some] := hbk
    have HBK := Lib.hid hbk
    have HHK := Lib.hid hk
    have HFP := Lib.hid hf'
    have hpfar : Far w2.heap.size fl' := fun z hz => by
      rcases hp' z hz with h | h
      · exact HFAR.out z h
      · exact .inr (by have := HWS.out; omega)
    have HPP := Lib.hid hpfar
    have HC9 : Hid (Chg (fun k => k = bf ∨ k = B + 1 + 1) w2 y.world) := Lib.hid (HCHG.out.trans ((HCY.out y).mono (fun _ _ h => .inl h)))
    have HOWN9 : Hid (OwnX y.world (w2.heap.size + 3) (.slice va acc.length vc) acc) := Lib.hid (HOWN.out.chg (HCY.out y) (fun k hk e => by
      have h1 := (World.ownsRow.lt HOWN.out k hk).1
      have h2 := HSZ.out
      have e' : k = bf := e
      omega))
    have HB49 : Hid (Blk y.world (B + 1 + 1) #[.slice va acc.length vc]) := Lib.hid (HB4.out.chg (HCY.out y) (fun e => by
      have h2 := HSZ.out
      have e' : B + 1 + 1 = bf := e
      omega))
    have HYS := Lib.hid y.size
    have HKF : Hid (KeepsFrom w2.heap.size W y.world ∧ Kc S0 W y.world) := Lib.hid ⟨kf_chg (HCY.out y) (fun k hk => by have h2 := HSZ.out; have e' : k = bf := hk; omega), kc_map HFM.out.map (HCY.out y)⟩
    clear hs hf' hg' hp' hk hbk hpfar ek y0 y1 y2 y3 y4 yl0 yl1 yl2 hT hne2 hu e2 e4 e5
    generalize y.world = w9 at *
    clear y
    have r4 := HBK.out.cell 4 (v := .bool xe.some) rfl
    have rl := HBK.out.lt
    have f0 := HB49.out.cell 0 (v := .slice va acc.length vc) rfl
    have fl0 := HB49.out.lt
    have ff0 := HB49.out.frozen 0
    cases hsm : xe.some
    · rw [hsm] at r4
      have H59 : Hid (Blk w9 (B + 1 + 1 + 1) #[.int .i64 0]) := Lib.hid ((H5.out.ext HX2.out).chg HC9.out (by have := HSZ.out; omega))
      have H69 : Hid (Blk w9 (B + 1 + 1 + 1 + 1) #[.int .i64 0]) := Lib.hid ((H6.out.ext HX2.out).chg HC9.out (by have := HSZ.out; omega))
      have g0 := H59.out.cell 0 (v := .int .i64 0) rfl
      have gl0 := H59.out.lt
      have gf0 := H59.out.frozen 0
      have h0 := H69.out.cell 0 (v := .int .i64 0) rfl
      have hl0 := H69.out.lt
      have hf0 := H69.out.frozen 0
      gi_wp2
      obtain ⟨q0, q1, q2, qc⟩ := three_out HB49.out H59.out H69.out (.slice none 0 0) (.int .i64 acc.length) (.int .i64 7)
      have hno : exS (outS gin gout beds ⟨sl, si⟩) ⟨gs, gw⟩ = none := by
        have h1 := HXO.out
        have h2 := HXE.out
        cases xo with
        | none => exact h1
        | some e =>
          have h3 := (exS_some h1).some
          have h4 : e = xe := h2
          rw [h4, hsm] at h3
          cases h3
      have hbad : RV = ([], (((pre ++ [⟨⟨sl, si⟩, ⟨gs, gw⟩⟩] : List Sg).length : Int) - 1), 7) := by
        obtain ⟨l, hl⟩ := goT_split start scores won k HK.out.1
        rw [← HRV.out]
        unfold visR
        have h3 := HVT.out.stop (x := ⟨⟨sl, si⟩, ⟨gs, gw⟩⟩) hno l
        rw [hl, ← HK.out.2.1, ← HK.out.2.2, h3]
        simp
      have hal : ((acc.length : Int)) = (((pre ++ [⟨⟨sl, si⟩, ⟨gs, gw⟩⟩] : List Sg).length : Int) - 1) := by rw [HVT.out.len]; simp
      refine ⟨HKF.out.1.trans (kf_chg qc (fun j hj => by have := HSZ.out; rcases hj with h | h | h <;> omega)), rfl, ⟨fl', q0, by rw [← hal]; exact q1, q2, HFP.out.blks ?_ qc, HPP.out⟩, hbad, (HC9.out.mono ?_).trans (qc.mono ?_)⟩
      · rintro j (rfl | rfl | rfl)
        · exact ⟨_, HB49.out⟩
        · exact ⟨_, H59.out⟩
        · exact ⟨_, H69.out⟩
      · rintro j - (h | h)
        · exact .inl h
        · exact .inr (.inl h)
      · rintro j - h
        exact .inr h
    · rw [hsm] at r4
      have r0 := HBK.out.cell 0 (v := .int .i64 xe.dl) rfl
      have r1 := HBK.out.cell 1 (v := .int .i64 xe.dh) rfl
      have r2 := HBK.out.cell 2 (v := .int .i64 xe.tl) rfl
      have r3 := HBK.out.cell 3 (v := .int .i64 xe.th) rfl
      obtain ⟨i0, hi, hz0, hz1, hz2⟩ := info_parts info_mv
      have hlen : acc.length ≤ 1000 := by have h1 := HVT.out.len; have h2 := HK.out; rw [h1, h2.2.1, goT_len]; have := HLS.out; omega
      gi_wp2_with (refine wpListIn_append_own_at _ rfl _ _ 34 rfl (w2.heap.size + 3) 45 i0 _ 4 32 (by kernel_rfl) hi hz0 hz1 hz2 rfl (by decide) _ acc.length (acc.flatMap Ex.four) rfl (HOWN9.out.ext ((Ext.refl w9).alloc _)) ⟨w9.heap.size, 0, none⟩ 1 1 xe.four rfl rfl ?_ ?_ (by unfold maxLen; omega) (by omega) ?_ ?_)
      · intro j u hj
        rw [addr_add, Nat.zero_add]
        have hj' : (#[.int .i64 xe.dl, .int .i64 xe.dh, .int .i64 xe.tl, .int .i64 xe.th] : Array Value)[j]? = some u := by rw [← Array.getElem?_toList]; exact hj
        exact (Blk.new w9 _ _).cell j hj'
      · intro u hu
        simp only [Ex.four, List.mem_cons, List.not_mem_nil, or_false] at hu
        rcases hu with rfl | rfl | rfl | rfl <;> rfl
      · have h1 := HWS.out
        have h2 := HYS.out
        simp
        omega
      intro v' w10 ho10 hg10 _ hat
      have hok : exS (outS gin gout beds ⟨sl, si⟩) ⟨gs, gw⟩ = some xe := by
        have h1 := HXO.out
        have h2 := HXE.out
        cases xo with
        | none =>
          have h4 : noEx = xe := h2
          rw [← h4] at hsm
          cases hsm
        | some e =>
          have h4 : e = xe := h2
          rw [← h4]
          exact h1
      have hX10 : Chg (fun q => (Value.slice va acc.length vc).ownBlock = some q) w9 w10 := ((((Ext.refl w9).alloc _).chg _)).trans (grown_chg hg10)
      have ho11 : OwnX w10 (w2.heap.size + 3) v' (acc ++ [xe]) := by
        show w10.ownsRow _ _ _ _ (acc ++ [xe]).length ((acc ++ [xe]).flatMap Ex.four)
        rw [List.length_append, List.flatMap_append]
        simpa using ho10
      have hob : ∀ q, (Value.slice va acc.length vc).ownBlock = some q → w2.heap.size + 3 ≤ q ∧ ∃ cs, Blk w9 q cs := by
        intro q hq
        have h1 := World.ownsRow.lt HOWN9.out q hq
        obtain ⟨-, ⟨e, -⟩ | ⟨g, cap, cur, e, -, h3, -⟩⟩ := HOWN9.out
        · rw [e] at hq; cases hq
        · rw [e] at hq; cases hq; exact ⟨h1.1, _, _, h3⟩
      have hb410 : Blk w10 (B + 1 + 1) #[.slice va acc.length vc] := HB49.out.chg hX10 (fun e => by have := (hob _ e).1; have := HSZ.out; omega)
      have hf10 : FoundM gin gout beds w10 bf fl' := HFP.out.blks (fun q hq => (hob q hq).2) hX10
      obtain ⟨va', vc', ev⟩ := ho11.shape
      rw [show (acc ++ [xe]).length = acc.length + 1 by simp] at ev
      subst ev
      have HF10 := Lib.hid hf10
      have HO11 := Lib.hid ho11
      have HB410 := Lib.hid hb410
      have HX10 := Lib.hid hX10
      have HOB := Lib.hid hob
      have HOK := Lib.hid hok
      have s0 := hb410.cell 0 (v := .slice va acc.length vc) rfl
      have sl0 := hb410.lt
      have sf0 := hb410.frozen 0
      clear hf10 ho11 hb410 hX10 hob hok hg10 hat r0 r1 r2 r3 r4 f0 fl0 ff0 rl hi hz0 hz1 hz2 ho10
      gi_wp2
      have hset := one_set HB410.out (.slice va' (acc.length + 1) vc')
      have hc := one_chg (· = B + 1 + 1) w10 (b := B + 1 + 1) rfl (.slice va' (acc.length + 1) vc')
      have hkc : Kc (fun q => q = B + 1 + 1 ∨ w2.heap.size + 3 ≤ q) w9 _ := (Kc.of_chg (HX10.out.mono (fun q _ h => .inr (HOB.out q h).1))).trans (Kc.of_chg (hc.mono (fun q _ h => .inl h)))
      refine ⟨HKF.out.1.trans ((kf_cells HX10.out (fun q hq => (HOB.out q hq).2)).trans (kf_chg hc ?_)), (HKF.out.2.mono (fun _ h => h.elim)).trans hkc, ⟨acc ++ [xe], _, fl', HVT.out.snoc (x := ⟨⟨sl, si⟩, ⟨gs, gw⟩⟩) HOK.out, HO11.out.chg hc ?_, hset, HF10.out.blk HB410.out hc, HPP.out⟩, ?_⟩
      · rintro q rfl
        have := HSZ.out
        omega
      · rintro q hq e
        have h1 := (World.ownsRow.lt HO11.out q hq).1
        have h2 := HSZ.out
        have e' : q = B + 1 + 1 := e
        omega
      · refine (HC9.out.far HX10.out (fun q hq => .inr ?_)).trans (hc.mono (fun q _ h => .inr h))
        have := (HOB.out q hq).1
        omega
  case done =>
    rintro D xs W hD rfl hi hdf
    obtain ⟨⟨acc, v, fl1, hvt, hown, hb4, hfm, hfar⟩, hchg⟩ := hi
    obtain ⟨va, vc, rfl⟩ := hown.shape
    have HDF := Lib.hid hdf
    have HVT := Lib.hid hvt
    have HOWN := Lib.hid hown
    have HB4 := Lib.hid hb4
    have HFM := Lib.hid hfm
    have HCHG := Lib.hid hchg
    have H59 : Hid (Blk W (B + 1 + 1 + 1) #[.int .i64 0]) := Lib.hid ((H5.out.ext HX2.out).chg hchg (by have := HSZ.out; omega))
    have H69 : Hid (Blk W (B + 1 + 1 + 1 + 1) #[.int .i64 0]) := Lib.hid ((H6.out.ext HX2.out).chg hchg (by have := HSZ.out; omega))
    have f0 := hb4.cell 0 (v := .slice va acc.length vc) rfl
    have fl0 := hb4.lt
    have ff0 := hb4.frozen 0
    have g0 := H59.out.cell 0 (v := .int .i64 0) rfl
    have gl0 := H59.out.lt
    have gf0 := H59.out.frozen 0
    have h0 := H69.out.cell 0 (v := .int .i64 0) rfl
    have hl0 := H69.out.lt
    have hf0 := H69.out.frozen 0
    clear hvt hown hb4 hfm hfar hchg hdf
    gi_wp2
    obtain ⟨q0, q1, q2, qc⟩ := three_out HB4.out H59.out H69.out (.slice va acc.length vc) (.int .i64 0) (.int .i64 0)
    generalize World.setCell _ _ _ = W3 at q0 q1 q2 qc ⊢
    have hmk : Marks w2.heap.size W3 [D] := Marks.one hD (qc.heap HDF.out (fun e => by have := HSZ.out; rcases e with e | e | e <;> omega))
    show LeavesInM _ _ _ _ _ _ ([D].map markOf) .returning _
    refine ret_mN (v := .tuple #[.slice va acc.length vc, .int .i64 0, .int .i64 0]) (lo := w2.heap.size) (w := W3) [D] W3 .refl hmk ?_
    intro W' hsh
    have c0 := (hsh.blk q0).cell 0 (v := .slice va acc.length vc) rfl
    have c1 := (hsh.blk q1).cell 0 (v := .int .i64 0) rfl
    have c2 := (hsh.blk q2).cell 0 (v := .int .i64 0) rfl
    have hRV : RV = (acc, 0, 0) := by rw [← HRV.out]; exact HVT.out.done
    refine ⟨by simp [results, Try.results51, go_sem, c0, c1, c2], _, fl1, by rw [hRV], ?_, (HFM.out.blks ?_ qc).shut hsh, ?_⟩
    · rw [hRV]
      refine hsh.own (own_mono (HOWN.out.chg qc ?_) ?_)
      · rintro q hq e
        have h1 := (World.ownsRow.lt HOWN.out q hq).1
        have h2 := HSZ.out
        rcases e with e | e | e <;> omega
      · have h1 := HX1.out.size
        have h2 := HX2.out.size
        omega
    · rintro j (rfl | rfl | rfl)
      · exact ⟨_, HB4.out⟩
      · exact ⟨_, H59.out⟩
      · exact ⟨_, H69.out⟩
    · refine hsh.chg ((((HX1.out.trans HX2.out).chg (· = bf)).far HCHG.out ?_).far qc ?_) (Nat.le_trans HX1.out.size HX2.out.size)
      · rintro j (h | h)
        · exact .inl h
        · exact .inr (by have := HBB.out; omega)
      · rintro j (h | h | h) <;> exact .inr (by have := HBB.out; omega)
  case stop =>
    rintro D c pre W hD - ⟨rfl, ⟨fl', q0, q1, q2, hfm, hfar⟩, hbad, hchg⟩ hdf
    gi_wp2
    show LeavesInM _ _ _ _ _ _ ([D].map markOf) .returning _
    refine ret_mN (v := .tuple #[.slice none 0 0, .int .i64 ((pre.length : Int) - 1), .int .i64 7]) (lo := w2.heap.size) (w := W) [D] W .refl (Marks.one hD hdf) ?_
    intro W' hsh
    have c0 := (hsh.blk q0).cell 0 (v := .slice none 0 0) rfl
    have c1 := (hsh.blk q1).cell 0 (v := .int .i64 ((pre.length : Int) - 1)) rfl
    have c2 := (hsh.blk q2).cell 0 (v := .int .i64 7) rfl
    refine ⟨by simp [results, Try.results51, go_sem, c0, c1, c2], _, fl', by rw [hbad], by rw [hbad]; exact OwnX.nil _ _, hfm.shut hsh, ?_⟩
    refine hsh.chg (((HX1.out.trans HX2.out).chg (· = bf)).far hchg ?_) (Nat.le_trans HX1.out.size HX2.out.size)
    rintro j (h | h | h | h)
    · exact .inl h
    all_goals exact .inr (by have := HBB.out; omega)
end Go.Proofs.Ytmopadnkjlodnaa
namespace Go.Proofs.Ytmopadnkjlodnaa
open Go.RowKit Go.BigFrame
attribute [local go_sem] Oper.semAt_some Later.cell Later.frozen Lat.cell Lat.frozen NoX
/-- A leg whose lists can be read. -/
structure LegR (l : Leg) (ba sa : Option Addr) (bc sc : Nat) (w : World) : Prop where
  beds : RdI S0 w (.slice ba l.beds.length bc) l.beds
  scores : RdI S0 w (.slice sa l.scores.length sc) l.scores
  wb : ∀ b ∈ l.beds, I64 b
  ws : ∀ b ∈ l.scores, I64 b
  wst : I64 l.start
theorem LegR.ext {l : Leg} {ba sa : Option Addr} {bc sc : Nat} {w w' : World} (h : LegR l ba sa bc sc w) (hx : Ext w w') : LegR l ba sa bc sc w' := ⟨h.beds.ext hx, h.scores.ext hx, h.wb, h.ws, h.wst⟩
theorem RdI.len {S : Nat → Prop} {W : World} {a : Option Addr} {n c : Nat} {xs : List Int} (h : RdI S W (.slice a n c) xs) : xs.length ≤ 9223372036854775807 := by
  obtain ⟨_, _, _, -, h2, h3, -⟩ := h.cells
  unfold maxLen at h3
  omega
def Leg.agg (l : Leg) (ba sa : Option Addr) (bc sc : Nat) : Value := .agg #[.int .i64 l.start, .int .i64 l.gin, .int .i64 l.gout, .slice ba l.beds.length bc, .slice sa l.scores.length sc, .bool l.won]
theorem LegR.at {l : Leg} {ba sa : Option Addr} {bc sc : Nat} {w : World} (h : LegR l ba sa bc sc w) : LegAt w l (l.agg ba sa bc sc) :=
  ⟨⟨ba, bc, sa, sc, rfl, (rd_cells h.beds).2, (rd_cells h.scores).2⟩, h.beds.len, h.scores.len, h.wb, h.ws, h.wst⟩
/-- The spans of the visits of any leg, or the error. -/
def vstF (l : Leg) : List Ex × Int × Int := if l.ok = true then visR l.start l.gin l.gout l.beds l.scores l.won else ([], 0, 2)
theorem Leg.ok_spec {l : Leg} (h : l.ok = true) : bedsB l.beds = true ∧ l.beds.length ≤ 82 ∧ (2 ≤ l.start ∧ l.start ≤ 1001) ∧ l.scores.length ≤ 100 := by
  unfold Leg.ok lawsB at h
  simp only [Bool.and_eq_true, decide_eq_true_eq, ins, out1, List.any_cons, List.any_nil, Bool.or_false, Bool.not_eq_true'] at h
  obtain ⟨⟨h1, ⟨h2, h3⟩, h4⟩, h5, -⟩ := h
  simp at h2 h4
  exact ⟨h1, by omega, by omega, h5⟩
structure VstG (l : Leg) (ba : Option Addr) (bc base : Nat) (RV : List Ex × Int × Int) (L : Nat → Bool) (u : Nat → Value) (W : World) : Prop where
  k5 : L 5 = true → ∃ kb bf, u 5 = .pointer (some ⟨kb, 0, none⟩) ∧ base ≤ kb ∧ base ≤ bf ∧ Blk W kb #[.int .i64 l.start, .int .i64 l.gin, .int .i64 l.gout, .slice ba l.beds.length bc, .map (some bf)] ∧ (L 7 = false → MapL Sd.agg mpK W bf [])
  k7 : L 7 = true → ∃ v, u 7 = .tuple #[v, .int .i64 RV.2.1, .int .i64 RV.2.2] ∧ OwnX W base v RV.1
theorem VstG.ext {l : Leg} {ba : Option Addr} {bc base : Nat} {RV : List Ex × Int × Int} {L : Nat → Bool} {u : Nat → Value} {W W' : World} (h : VstG l ba bc base RV L u W) (hx : Ext W W') : VstG l ba bc base RV L u W' :=
  ⟨fun e => let ⟨kb, bf, h1, h2, h3, h4, h5⟩ := h.k5 e; ⟨kb, bf, h1, h2, h3, h4.ext hx, fun e => (h5 e).ext hx⟩, fun e => let ⟨v, h1, h2⟩ := h.k7 e; ⟨v, h1, h2.ext hx⟩⟩
theorem VstG.congr {l : Leg} {ba : Option Addr} {bc base : Nat} {RV : List Ex × Int × Int} {L L' : Nat → Bool} {u : Nat → Value} {W : World} (h : VstG l ba bc base RV L u W) (e5 : L' 5 = L 5) (e7 : L' 7 = L 7) : VstG l ba bc base RV L' u W :=
  ⟨fun e => let ⟨kb, bf, h1, h2, h3, h4, h5⟩ := h.k5 (e5 ▸ e); ⟨kb, bf, h1, h2, h3, h4, fun e => h5 (e7 ▸ e)⟩, fun e => h.k7 (e7 ▸ e)⟩
structure VstR (RV : List Ex × Int × Int) (k : Nat) (v : Value) : Prop where
  r5 : k = 5 → ∃ b, v = .pointer (some ⟨b, 0, none⟩)
  r7 : k = 7 → ∃ a c, v = .tuple #[.slice a RV.1.length c, .int .i64 RV.2.1, .int .i64 RV.2.2]
def vstU (RV : List Ex × Int × Int) (k : Nat) : Value := if k = 5 then .pointer (some ⟨0, 0, none⟩) else .tuple #[.slice none RV.1.length 0, .int .i64 RV.2.1, .int .i64 RV.2.2]
theorem vstU_R (RV : List Ex × Int × Int) (k : Nat) : VstR RV k (vstU RV k) := ⟨by rintro rfl; exact ⟨0, rfl⟩, by rintro rfl; exact ⟨none, 0, rfl⟩⟩
def vstN (k : Nat) : Bool := k == 5 || k == 7
set_option maxRecDepth 100000 in
set_option maxHeartbeats 8000000 in
theorem mean_Visits (l : Leg) (ba sa : Option Addr) (bc sc : Nat) (w : World) (h : LegR l ba sa bc sc w) :
    Calls Try.prog 17 #[l.agg ba sa bc sc] w fun e w' => ∃ v, e = .returned (.tuple #[v, .int .i64 (vstF l).2.1, .int .i64 (vstF l).2.2]) ∧ OwnX w' w.heap.size v (vstF l).1 ∧ Ext w w' := by
  obtain ⟨RV, hRV⟩ : ∃ r, vstF l = r := ⟨_, rfl⟩
  rw [hRV]
  have HRV := Lib.hid hRV
  have HL := Lib.hid h
  clear hRV h
  have HCK := Lib.hid (fun W (hx : Ext w W) => mean_Check l _ W (HL.out.ext hx).at)
  unfold Leg.agg at HCK ⊢
  go_enter Try.func17, Try.ntmps17
  go_upto_region 1 with fail
  obtain ⟨w1, hw1⟩ : ∃ y, y = w.alloc (.cells #[.int .i64 l.start, .int .i64 l.gin, .int .i64 l.gout, .slice ba l.beds.length bc, .slice sa l.scores.length sc, .bool l.won] 28) := ⟨_, rfl⟩
  rw [← hw1]
  have HX1 : Hid (Ext w w1) := Lib.hid (by rw [hw1]; exact (Ext.refl w).alloc _)
  have HB1 : Hid (Blk w1 w.heap.size #[.int .i64 l.start, .int .i64 l.gin, .int .i64 l.gout, .slice ba l.beds.length bc, .slice sa l.scores.length sc, .bool l.won]) := Lib.hid (by rw [hw1]; exact Blk.new _ _ _)
  clear hw1
  have l0 := HB1.out.cell 0 (v := .int .i64 l.start) rfl
  have l1 := HB1.out.cell 1 (v := .int .i64 l.gin) rfl
  have l2 := HB1.out.cell 2 (v := .int .i64 l.gout) rfl
  have l3 := HB1.out.cell 3 (v := .slice ba l.beds.length bc) rfl
  have l4 := HB1.out.cell 4 (v := .slice sa l.scores.length sc) rfl
  have l5 := HB1.out.cell 5 (v := .bool l.won) rfl
  have ll := HB1.out.lt
  go_wp2_with fail
  refine (HCK.out w1 HX1.out).mono ?_
  rintro e w2 ⟨rfl, hx2⟩
  have HX2 := Lib.hid (HX1.out.trans hx2)
  have HB2 := Lib.hid (HB1.out.ext hx2)
  clear l0 l1 l2 l3 l4 l5 ll hx2
  cases hok : l.ok
  · have e : RV = ([], 0, 2) := by rw [← HRV.out]; unfold vstF; rw [hok]; rfl
    have HE := Lib.hid e
    rw [Leg.err_bad hok]
    clear e
    go_wp2
    refine bodyPost_ret (v := .tuple #[.slice none 0 0, .int .i64 0, .int .i64 2]) (by simp [results, Try.results17, go_sem]) rfl ⟨_, by rw [HE.out], by rw [HE.out]; exact OwnX.nil _ _, HX2.out⟩
  · rw [Leg.err_ok hok]
    have HOK := Lib.hid (Leg.ok_spec hok)
    have e : RV = visR l.start l.gin l.gout l.beds l.scores l.won := by rw [← HRV.out]; unfold vstF; rw [if_pos hok]
    have HE := Lib.hid e
    clear e
    have y0 : ∀ y : Lat NoX w2, y.world.cell? ⟨w.heap.size, 0, none⟩ = some (.int .i64 l.start) := fun y => (HB2.out.ext (Lat.ext0 y)).cell 0 rfl
    have y1 : ∀ y : Lat NoX w2, y.world.cell? ⟨w.heap.size, 1, none⟩ = some (.int .i64 l.gin) := fun y => (HB2.out.ext (Lat.ext0 y)).cell 1 rfl
    have y2 : ∀ y : Lat NoX w2, y.world.cell? ⟨w.heap.size, 2, none⟩ = some (.int .i64 l.gout) := fun y => (HB2.out.ext (Lat.ext0 y)).cell 2 rfl
    have y3 : ∀ y : Lat NoX w2, y.world.cell? ⟨w.heap.size, 3, none⟩ = some (.slice ba l.beds.length bc) := fun y => (HB2.out.ext (Lat.ext0 y)).cell 3 rfl
    have y4 : ∀ y : Lat NoX w2, y.world.cell? ⟨w.heap.size, 4, none⟩ = some (.slice sa l.scores.length sc) := fun y => (HB2.out.ext (Lat.ext0 y)).cell 4 rfl
    have y5 : ∀ y : Lat NoX w2, y.world.cell? ⟨w.heap.size, 5, none⟩ = some (.bool l.won) := fun y => (HB2.out.ext (Lat.ext0 y)).cell 5 rfl
    go_upto_region 4 with fail
    refine wp_region_lat (by kernel_rfl) NoX vstN (VstR RV) (VstG l ba bc w2.heap.size RV) (by kernel_rfl)
      (fun k hk => by
        simp only [vstN, Bool.or_eq_true, beq_iff_eq] at hk
        rcases hk with rfl | rfl <;> decide)
      (fun L L' u w' h hg => hg.congr (h 5 rfl) (h 7 rfl)) (fun L u a b h hx => h.ext hx) (vstU RV) (fun k _ => vstU_R RV k) ⟨fun h => (by cases h), fun h => (by cases h)⟩ ?_
    intro T hT hne2 u hu
    obtain ⟨kb, e5⟩ := (hu 5 rfl).r5 rfl
    obtain ⟨va, vc, e7⟩ := (hu 7 rfl).r7 rfl
    refine lx_next 5 (by rfl) (by decide) ?_
    dsimp only [List.take, List.drop]
    repeat (go_big_quiet_step (fail))
    refine wpQuiet_nil ?_
    refine lx_loud (by rfl) (by kernel_rfl) ?_ (fun K hK => ?_)
    · intro L w4 hL hd hcl hC hs
      obtain ⟨y, rfl⟩ := hC
      have h7 := hcl.off hL 40 7 (by kernel_rfl)
      have hy := y.size
      go_wp2_with fail
      refine (mean_newBoard l.start l.gin l.gout ba l.beds.length bc y.world).mono ?_
      rintro e w5 ⟨k, bf, rfl, hk1, hk2, hbk, hmp, hx⟩
      go_wp2
      exact ⟨⟨fun _ => ⟨_, rfl⟩, fun h => absurd h (by decide)⟩, ⟨y.ext hx, rfl⟩, ⟨fun _ => ⟨k, bf, rfl, by omega, by omega, hbk, fun _ => hmp⟩, fun h => absurd h (by rw [show upd L 5 7 = L 7 from rfl, h7]; simp)⟩⟩
    rw [e5]
    go_simp
    with_reducible refine hK _ ?_
    clear hK K
    refine lx_next 1 (by rfl) (by decide) ?_
    dsimp only [List.take, List.drop]
    repeat (go_big_quiet_step (fail))
    refine wpQuiet_nil ?_
    refine lx_loud (by rfl) (by kernel_rfl) ?_ (fun K hK => ?_)
    · intro L w4 hL hd hcl hC hs
      obtain ⟨y, rfl⟩ := hC
      obtain ⟨k, bf, ek, hk1, hk2, hbk, hmp⟩ := hs.k5 (hd 5 (by kernel_rfl))
      obtain rfl : k = kb := by have h := ek.symm.trans e5; cases h; rfl
      have hmp := hmp hL
      have hy := y.size
      have hok := HOK.out
      have hX := HX2.out.trans (Lat.ext0 y)
      have hne : ¬ k = bf := by
        rintro rfl
        obtain ⟨t, ht⟩ := hbk
        exact hmp.notCells ht
      go_wp2_with fail
      refine (mean_visits l.start l.gin l.gout l.beds ba bc k bf [] l.scores sa sc l.won y.world hbk (HL.out.beds.ext hX) (by omega) hok.1 (by omega) ⟨hmp, fun x hx => by cases hx⟩ (HL.out.scores.ext hX) (by omega)).mono ?_
      rintro e w5 ⟨v, fl', rfl, hv, hf', hc⟩
      rw [← HE.out] at hv ⊢
      obtain ⟨va', vc', rfl⟩ := hv.shape
      go_wp2
      exact ⟨⟨fun h => absurd h (by decide), fun _ => ⟨_, _, rfl⟩⟩, ⟨y.chgd hc (fun b hb => .inl (by have e : b = bf := hb; omega)), rfl⟩, ⟨fun _ => ⟨k, bf, ek, hk1, hk2, hbk.chg hc hne, fun h => absurd h (by simp [upd])⟩, fun _ => ⟨_, rfl, own_mono hv hy⟩⟩⟩
    rw [e7]
    go_simp
    with_reducible refine hK _ ?_
    clear hK K
    refine lx_next 6 (by rfl) (by decide) ?_
    dsimp only [List.take, List.drop]
    repeat (go_big_quiet_step (fail))
    refine wpQuiet_nil ?_
    refine lx_nil ?_
    intro y hs
    obtain ⟨v, ev, hv⟩ := hs.k7 rfl
    obtain rfl : v = .slice va RV.1.length vc := by have h := ev.symm.trans e7; cases h; rfl
    have HV := Lib.hid hv
    have HXY := Lib.hid (Lat.ext0 y)
    have HSY := Lib.hid (Nat.le_trans HX2.out.size (Nat.le_refl w2.heap.size))
    clear hs hv ev hT hne2 y0 y1 y2 y3 y4 y5 hu e5 e7
    generalize y.world = w9 at *
    go_wp2
    refine bodyPost_ret (v := .tuple #[.slice va RV.1.length vc, .int .i64 RV.2.1, .int .i64 RV.2.2]) (by simp [results, Try.results17, go_sem]) rfl ⟨_, rfl, own_mono HV.out HSY.out, HX2.out.trans HXY.out⟩
end Go.Proofs.Ytmopadnkjlodnaa
