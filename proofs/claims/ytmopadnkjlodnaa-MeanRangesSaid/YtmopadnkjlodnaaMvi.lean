/-
  Package mean: visits: the spans of the visits of a leg, or the first one that cannot be.
-/
import Derived.Test.YtmopadnkjlodnaaMvp
import Derived.Test.YtmopadnkjlodnaaMbe
namespace Go.Proofs.Ytmopadnkjlodnaa
open Go.RowKit Go.BigFrame
attribute [local go_sem] Oper.semAt_some Later.cell Later.frozen Lat.cell Lat.frozen NoX
/-- The four integers of the spans of a visit; a row of them. -/
def Ex.four (x : Ex) : List Value := [.int .i64 x.dl, .int .i64 x.dh, .int .i64 x.tl, .int .i64 x.th]
def OwnX (w : World) (base : Nat) (v : Value) (xs : List Ex) : Prop := w.ownsRow base 45 4 v xs.length (xs.flatMap Ex.four)
theorem info_mv : (Try.prog.info? 45).map (fun i => (i.zero, i.size, i.bytes)) = some (some (.agg #[.int .i64 0, .int .i64 0, .int .i64 0, .int .i64 0]), 4, 32) := by kernel_rfl
theorem OwnX.nil (w : World) (base : Nat) : OwnX w base (.slice none 0 0) [] := World.ownsRow_nil w base _ _
theorem OwnX.chg {w w' : World} {S : Nat → Prop} {base : Nat} {v : Value} {xs : List Ex} (h : OwnX w base v xs) (hx : Chg S w w') (hs : ∀ k, v.ownBlock = some k → ¬ S k) : OwnX w' base v xs := own_chg h hx hs
theorem OwnX.ext {w w' : World} {base : Nat} {v : Value} {xs : List Ex} (h : OwnX w base v xs) (hx : Ext w w') : OwnX w' base v xs := own_chg h (hx.chg fun _ => False) fun _ _ => id
theorem OwnX.shape {w : World} {base : Nat} {v : Value} {xs : List Ex} (h : OwnX w base v xs) : ∃ a c, v = .slice a xs.length c := own_shape h
theorem flatMap_get {α β : Type} {f : α → List β} {m : Nat} (hf : ∀ x, (f x).length = m) : ∀ (l : List α) (i : Nat) (hi : i < l.length) (j : Nat), j < m → (l.flatMap f)[i * m + j]? = (f l[i])[j]?
  | [], i, hi, _, _ => absurd hi (by simp)
  | x :: l, 0, _, j, hj => by
    simp only [List.flatMap_cons, Nat.zero_mul, Nat.zero_add, List.getElem_cons_zero]
    rw [List.getElem?_append_left (by rw [hf]; exact hj)]
  | x :: l, i + 1, hi, j, hj => by
    simp only [List.flatMap_cons, List.getElem_cons_succ]
    rw [List.getElem?_append_right (by rw [hf, Nat.add_mul]; omega), hf, show (i + 1) * m + j - m = i * m + j by rw [Nat.add_mul]; omega]
    exact flatMap_get hf l i (by simpa using hi) j hj
/-- The spans of a visit in a row. -/
theorem OwnX.at {w : World} {base : Nat} {v : Value} {xs : List Ex} (h : OwnX w base v xs) (i : Nat) (hi : i < xs.length) : ∃ g c, v = .slice (some ⟨g, 0, none⟩) xs.length c ∧ base ≤ g ∧ g < w.heap.size ∧ ∀ (j : Nat) (u : Value), xs[i].four[j]? = some u → w.cell? ⟨g, i * 4 + j, none⟩ = some u := by
  have hc := fun g (hg : v.ownBlock = some g) => World.ownsRow.cells (w := w) (g := g) h hg
  have hlt := World.ownsRow.lt h
  obtain ⟨h1, ⟨e, h2⟩ | ⟨g, cap, cur, e, h2, h3, h4⟩⟩ := h
  · omega
  · refine ⟨g, cap, e, h2, (hlt g (by rw [e]; rfl)).2, fun j u hu => ?_⟩
    have hj : j < 4 := (List.getElem?_eq_some_iff.1 hu).1
    have := hc g (by rw [e]; rfl) (i * 4 + j) u (by rw [flatMap_get (m := 4) (fun _ => rfl) xs i hi j hj]; exact hu)
    rw [addr_add, Nat.zero_add] at this
    exact this
/-- While the spans of a visit are looked up. -/
structure VisGh (gin gout : Int) (beds : List Int) (s : Sd) (bf base : Nat) (fl : List (Sd × Nat)) (x : Ex) (L : Nat → Bool) (u : Nat → Value) (W : World) : Prop where
  f0 : L 2 = false → FoundM gin gout beds W bf fl
  f2 : L 2 = true → ∃ n fl', u 2 = .map (some n) ∧ FoundM gin gout beds W bf fl' ∧ GoodM gin gout beds W n s ∧ ∀ y ∈ fl', y ∈ fl ∨ base ≤ y.2
  k9 : L 5 = true → ∃ k, u 5 = .pointer (some ⟨k, 0, none⟩) ∧ base ≤ k ∧ Blk W k (bif L 6 then x.cells else noEx.cells)
theorem VisGh.ext {gin gout : Int} {beds : List Int} {s : Sd} {bf base : Nat} {fl : List (Sd × Nat)} {x : Ex} {L : Nat → Bool} {u : Nat → Value} {W W' : World} (h : VisGh gin gout beds s bf base fl x L u W) (hx : Ext W W') : VisGh gin gout beds s bf base fl x L u W' :=
  ⟨fun e => (h.f0 e).ext hx, fun e => let ⟨n, fl', h1, h2, h3, h4⟩ := h.f2 e; ⟨n, fl', h1, h2.ext hx, h3.chg (hx.chg S0) id, h4⟩, fun e => let ⟨k, h1, h2, h3⟩ := h.k9 e; ⟨k, h1, h2, h3.ext hx⟩⟩
structure VisRh (x : Ex) (k : Nat) (v : Value) : Prop where
  r2 : k = 2 → ∃ n, v = .map (some n)
  r4 : k = 4 → v = x.agg
  r5 : k = 5 → ∃ b, v = .pointer (some ⟨b, 0, none⟩)
def visU (x : Ex) (k : Nat) : Value := if k = 2 then .map (some 0) else if k = 4 then x.agg else .pointer (some ⟨0, 0, none⟩)
theorem visU_R (x : Ex) (k : Nat) : VisRh x k (visU x k) := ⟨by rintro rfl; exact ⟨0, rfl⟩, by rintro rfl; rfl, by rintro rfl; exact ⟨0, rfl⟩⟩
def visN (k : Nat) : Bool := k == 2 || (k == 4 || (k == 5 || k == 6))
/-- Blocks that the loop over the goals makes for itself. -/
def Far (B : Nat) (fl : List (Sd × Nat)) : Prop := ∀ y ∈ fl, y.2 < B ∨ B + 3 ≤ y.2
theorem FoundM.chgN {gin gout : Int} {beds : List Int} {w w' : World} {bf : Nat} {fl : List (Sd × Nat)} {S : Nat → Prop} (h : FoundM gin gout beds w bf fl) (hx : Chg S w w') (hb : ¬ S bf) (hs : ∀ y ∈ fl, ¬ S y.2) : FoundM gin gout beds w' bf fl :=
  ⟨h.map.chg hx hb, fun y hy => ⟨(h.good y hy).1.chg hx (hs y hy), (h.good y hy).2⟩⟩
theorem FoundM.blk {gin gout : Int} {beds : List Int} {w w' : World} {bf b : Nat} {fl : List (Sd × Nat)} {cs : Array Value} (h : FoundM gin gout beds w bf fl) (hb : Blk w b cs) (hx : Chg (· = b) w w') : FoundM gin gout beds w' bf fl := by
  obtain ⟨t, ht⟩ := hb
  refine h.chgN hx (by rintro rfl; exact h.map.notCells ht) (fun y hy => ?_)
  rintro rfl
  obtain ⟨l, h1, -⟩ := (h.good y hy).1
  exact h1.notCells ht
theorem GoodM.blk {gin gout : Int} {beds : List Int} {w w' : World} {n b : Nat} {s : Sd} {cs : Array Value} (h : GoodM gin gout beds w n s) (hb : Blk w b cs) (hx : Chg (· = b) w w') : GoodM gin gout beds w' n s := by
  obtain ⟨t, ht⟩ := hb
  obtain ⟨l, h1, -⟩ := id h
  exact h.chg hx (by rintro rfl; exact h1.notCells ht)
theorem stT_bounds {gin gout start : Int} {beds scores : List Int} {won : Bool} {k : Nat} {acc : List Ex} (h : VisTo gin gout beds (goT start scores won k) acc) (hB : bedsB beds = true) (hs : 0 ≤ start ∧ start ≤ 2000) : ∀ j, j ≤ k → 0 ≤ (stT start scores j).left ∧ (stT start scores j).left ≤ start
  | 0, _ => ⟨hs.1, Int.le_refl _⟩
  | j + 1, hj => by
    have ih := stT_bounds h hB hs j (by omega)
    have hx : (goT start scores won k)[j]? = some (gAt start scores won j) := by
      unfold goT
      rw [List.getElem?_map, List.getElem?_range (by omega)]
      rfl
    have ha := h.at_ j _ hx
    have hlt : j < acc.length := by rw [h.len, goT_len]; omega
    rw [List.getElem?_eq_getElem hlt] at ha
    have hb := (exS_bounds hB ih.1 ha.symm).1
    have e : (stT start scores (j + 1)).left = wrap64 ((stT start scores j).left - scores.getD j 0) := rfl
    have e2 : (gAt start scores won j).g.score = scores.getD j 0 := rfl
    rw [e2] at hb
    rw [e, wrap64_in' ⟨by omega, by omega⟩]
    omega
theorem VisGh.congr {gin gout : Int} {beds : List Int} {s : Sd} {bf base : Nat} {fl : List (Sd × Nat)} {x : Ex} {L L' : Nat → Bool} {u u' : Nat → Value} {W : World} (h : VisGh gin gout beds s bf base fl x L u W) (e2 : L' 2 = L 2) (e5 : L' 5 = L 5) (e6 : L' 6 = L 6) (f2 : u' 2 = u 2) (f5 : u' 5 = u 5) : VisGh gin gout beds s bf base fl x L' u' W :=
  ⟨fun e => h.f0 (e2 ▸ e), fun e => let ⟨n, fl', h1, h2⟩ := h.f2 (e2 ▸ e); ⟨n, fl', f2.trans h1, h2⟩, fun e => let ⟨k, h1, h2, h3⟩ := h.k9 (e5 ▸ e); ⟨k, f5.trans h1, h2, by rw [e6]; exact h3⟩⟩
theorem kc_map {κ ν : Type} {ek : κ → Value} {ev : ν → Value} {w W : World} {b : Nat} {l : List (κ × ν)} (h : MapL ek ev w b l) (hc : Chg (· = b) w W) : Kc S0 w W :=
  ⟨hc.size, fun _ _ _ _ hk _ => hc.heap hk (by rintro rfl; exact h.notCells hk)⟩
theorem five_set {w : World} {b : Nat} {v0 v1 v2 v3 v4 : Value} (h : Blk w b #[v0, v1, v2, v3, v4]) (x0 x1 x2 x3 x4 : Value) : Blk (((((w.setCell ⟨b, 0, none⟩ x0).setCell ⟨b, 1, none⟩ x1).setCell ⟨b, 2, none⟩ x2).setCell ⟨b, 3, none⟩ x3).setCell ⟨b, 4, none⟩ x4) b #[x0, x1, x2, x3, x4] := by
  have h0 : Blk _ b #[x0, v1, v2, v3, v4] := h.set 0 x0
  have h1 : Blk _ b #[x0, x1, v2, v3, v4] := h0.set 1 x1
  have h2 : Blk _ b #[x0, x1, x2, v3, v4] := h1.set 2 x2
  have h3 : Blk _ b #[x0, x1, x2, x3, v4] := h2.set 3 x3
  have h4 : Blk _ b #[x0, x1, x2, x3, x4] := h3.set 4 x4
  exact h4
theorem five_chg (S : Nat → Prop) (w : World) {b : Nat} (hb : S b) (x0 x1 x2 x3 x4 : Value) : Chg S w (((((w.setCell ⟨b, 0, none⟩ x0).setCell ⟨b, 1, none⟩ x1).setCell ⟨b, 2, none⟩ x2).setCell ⟨b, 3, none⟩ x3).setCell ⟨b, 4, none⟩ x4) :=
  (((((Chg.refl S w).setCell (.inr hb) x0).setCell (.inr hb) x1).setCell (.inr hb) x2).setCell (.inr hb) x3).setCell (.inr hb) x4
theorem FoundM.blks {gin gout : Int} {beds : List Int} {w w' : World} {bf : Nat} {fl : List (Sd × Nat)} {S : Nat → Prop} (h : FoundM gin gout beds w bf fl) (hS : ∀ k, S k → ∃ cs, Blk w k cs) (hx : Chg S w w') : FoundM gin gout beds w' bf fl :=
  h.chgN hx (fun e => let ⟨_, _, ht⟩ := hS _ e; h.map.notCells ht) (fun y hy e => let ⟨_, _, ht⟩ := hS _ e; let ⟨_, h1, _⟩ := (h.good y hy).1; h1.notCells ht)
theorem three_out {w : World} {b : Nat} {v0 v1 v2 : Value} (h0 : Blk w b #[v0]) (h1 : Blk w (b + 1) #[v1]) (h2 : Blk w (b + 1 + 1) #[v2]) (x0 x1 x2 : Value) :
    Blk (((w.setCell ⟨b, 0, none⟩ x0).setCell ⟨b + 1, 0, none⟩ x1).setCell ⟨b + 1 + 1, 0, none⟩ x2) b #[x0] ∧ Blk (((w.setCell ⟨b, 0, none⟩ x0).setCell ⟨b + 1, 0, none⟩ x1).setCell ⟨b + 1 + 1, 0, none⟩ x2) (b + 1) #[x1] ∧ Blk (((w.setCell ⟨b, 0, none⟩ x0).setCell ⟨b + 1, 0, none⟩ x1).setCell ⟨b + 1 + 1, 0, none⟩ x2) (b + 1 + 1) #[x2] ∧
    Chg (fun k => k = b ∨ k = b + 1 ∨ k = b + 1 + 1) w (((w.setCell ⟨b, 0, none⟩ x0).setCell ⟨b + 1, 0, none⟩ x1).setCell ⟨b + 1 + 1, 0, none⟩ x2) :=
  ⟨((h0.set 0 x0).other (by simp) x1).other (by simp; omega) x2, ((h1.other (by simp) x0).set 0 x1).other (by simp) x2, ((h2.other (by simp; omega) x0).other (by simp) x1).set 0 x2,
    (((Chg.refl _ w).setCell (.inr (.inl rfl)) x0).setCell (.inr (.inr (.inl rfl))) x1).setCell (.inr (.inr (.inr rfl))) x2⟩
theorem RdI.below {S T : Nat → Prop} {w : World} {v : Value} {xs : List Int} (h : RdI S w v xs) (hT : ∀ k, T k → S k ∨ w.heap.size ≤ k) : RdI T w v xs := by
  rcases h with h | ⟨b, o, c, cs, t, f, h1, h2, h3, h4, h5, h6⟩
  · exact .inl h
  · refine .inr ⟨b, o, c, cs, t, f, h1, h2, h3, fun e => ?_, h5, h6⟩
    rcases hT b e with e | e
    · exact h4 e
    · have := (Array.getElem?_eq_some_iff.1 h5).1
      omega
theorem Kc.mono {S T : Nat → Prop} {A B : World} (h : Kc S A B) (hs : ∀ k, S k → T k) : Kc T A B := ⟨h.size, fun k cs t f hk hn => h.keep k cs t f hk (fun e => hn (hs k e))⟩
theorem kf_cells {S : Nat → Prop} {w W : World} {base : Nat} (h : Chg S w W) (hs : ∀ k, S k → ∃ cs, Blk w k cs) : KeepsFrom base w W :=
  ⟨h.size, fun k o _ hk ho => h.heap hk (fun e => by obtain ⟨cs, t, ht⟩ := hs k e; rw [hk] at ht; cases ht; cases ho)⟩
theorem Shut.blk {lo : Nat} {A B : World} (h : Shut lo A B) {b : Nat} {cs : Array Value} (hb : Blk A b cs) : Blk B b cs := let ⟨t, ht⟩ := hb; ⟨t, h.heap ht (fun e => by cases e)⟩
theorem Shut.own {lo : Nat} {A B : World} (h : Shut lo A B) {base : Nat} {e : TypeId} {size : Nat} {v : Value} {n : Nat} {xs : List Value} (ho : A.ownsRow base e size v n xs) : B.ownsRow base e size v n xs := by
  obtain ⟨h1, h2 | ⟨g, cap, cur, e1, h2, h3, h4⟩⟩ := ho
  · exact ⟨h1, .inl h2⟩
  · exact ⟨h1, .inr ⟨g, cap, cur, e1, h2, h.heap h3 (fun e => by cases e), h4⟩⟩
theorem Marks.one {lo : Nat} {w : World} {D : Nat} (hl : lo ≤ D) (hk : w.heap[D]? = some (.deferred (some []))) : Marks lo w [D] := (Marks.nil lo w).cons (by simp) hl hk
end Go.Proofs.Ytmopadnkjlodnaa
