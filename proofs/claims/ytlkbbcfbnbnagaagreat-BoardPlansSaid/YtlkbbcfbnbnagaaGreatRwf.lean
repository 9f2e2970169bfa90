/-
  Plain: what the program's answers on wear are, case by case; a list that is turned, element by element.
-/
import Derived.Test.YtlkbbcfbnbnagaaGreatRwe
import Derived.Test.YtlkbbcfbnbnagaaGreatRgd
namespace Go.Proofs.YtlkbbcfbnbnagaaGreat
open Go.RowKit Go.BigFrame
/-- The first j numbers of a list, each k farther. -/
def putN (xs : List Int) (k : Nat) : Nat → List Int
  | 0 => xs
  | j + 1 => (putN xs k j).set ((j + k) % xs.length) (xs.getD j 0)
theorem putN_len (xs : List Int) (k : Nat) : ∀ j, (putN xs k j).length = xs.length
  | 0 => rfl
  | j + 1 => by rw [putN, List.length_set]; exact putN_len xs k j
theorem putN_get (xs : List Int) (k : Nat) (hk : k < xs.length) : ∀ j, j ≤ xs.length → ∀ s, s < xs.length →
    (putN xs k j).getD s 0 = if (s + xs.length - k) % xs.length < j then xs.getD ((s + xs.length - k) % xs.length) 0 else xs.getD s 0
  | 0, _, s, hs => by simp [putN]
  | j + 1, hj, s, hs => by
    have ih := putN_get xs k hk j (by omega) s hs
    rw [putN, List.getD_eq_getElem?_getD, List.getElem?_set]
    have hb := mod_back (n := xs.length) (k := k) (s := s) (j := j) hk hs (by omega)
    by_cases e : (j + k) % xs.length = s
    · have e2 := hb.1 e
      rw [if_pos e, if_pos (by rw [putN_len, e]; exact hs), e2, if_pos (by omega)]
      simp
    · have e2 : ¬ (s + xs.length - k) % xs.length = j := fun h => e (hb.2 h)
      rw [if_neg e, ← List.getD_eq_getElem?_getD, ih]
      by_cases h : (s + xs.length - k) % xs.length < j
      · rw [if_pos h, if_pos (by omega)]
      · rw [if_neg h, if_neg (by omega)]
theorem putN_all (xs : List Int) (k : Nat) (hk : k < xs.length) : putN xs k xs.length = turnL xs k := by
  apply List.ext_getElem?
  intro s
  rcases Nat.lt_or_ge s xs.length with hs | hs
  · have h1 := putN_get xs k hk xs.length (Nat.le_refl _) s hs
    have hq : (s + xs.length - k) % xs.length < xs.length := Nat.mod_lt _ (by omega)
    rw [if_pos hq] at h1
    have h2 : (putN xs k xs.length)[s]? = some ((putN xs k xs.length).getD s 0) := by
      rw [List.getD_eq_getElem?_getD, List.getElem?_eq_getElem (by rw [putN_len]; exact hs)]; rfl
    rw [h2, h1, turnL_at xs k s hk hs, List.getElem?_eq_getElem hq, getD_lt hq]
  · rw [List.getElem?_eq_none (by rw [putN_len]; exact hs), List.getElem?_eq_none (by rw [turnL_len xs k (by omega)]; exact hs)]
theorem putN_step (xs : List Int) (k j : Nat) (hj : j < xs.length) : ∃ q old, q < xs.length ∧ (j + k) % xs.length = q ∧ (putN xs k j)[q]? = some old ∧ putN xs k (j + 1) = (putN xs k j).set q xs[j] := by
  have hq : (j + k) % xs.length < (putN xs k j).length := by rw [putN_len]; exact Nat.mod_lt _ (by omega)
  exact ⟨_, _, Nat.mod_lt _ (by omega), rfl, List.getElem?_eq_getElem hq, by rw [putN, getD_lt hj]⟩
theorem turns_err {b : Brd} {worn wk : List Int} {k : Int} (h : errB b ≠ 0) : turnR b k = (zeroB, errB b) ∧ wearR b worn wk k = ([], errB b) ∧ bestR b worn wk = (0, 0, errB b) := by
  have hw : watB b worn [wk] = errB b := by unfold watB; rw [if_pos h]
  refine ⟨?_, ?_, ?_⟩
  · unfold turnR; rw [if_pos h]
  · unfold wearR; rw [if_pos (by rw [hw]; exact h), hw]
  · unfold bestR; rw [if_pos (by rw [hw]; exact h), hw]
theorem turn_out {b : Brd} {k : Int} (h : errB b = 0) (hk : ins 0 (b.nums.length - 1) [k] = false) : turnR b k = (zeroB, 3) := by unfold turnR; rw [if_neg (by simp [h]), if_neg (by simp [hk])]
theorem turn_in {b : Brd} {k : Int} (h : errB b = 0) (hk : ins 0 (b.nums.length - 1) [k] = true) : turnR b k = (⟨b.eye, b.bull, b.rings, b.lines, turnL b.nums k.toNat, b.wire⟩, 0) := by unfold turnR; rw [if_neg (by simp [h]), if_pos hk]
theorem wat_form {b : Brd} {worn : List Int} {wks : List (List Int)} (h : errB b = 0) : watB b worn wks = formB b.nums.length worn wks := by unfold watB; rw [if_neg (by simp [h])]
theorem wear_form {b : Brd} {worn wk : List Int} {k : Int} (h : errB b = 0) (hf : formB b.nums.length worn [wk] ≠ 0) : wearR b worn wk k = ([], formB b.nums.length worn [wk]) ∧ bestR b worn wk = (0, 0, formB b.nums.length worn [wk]) := by
  have hw := wat_form (worn := worn) (wks := [wk]) h
  refine ⟨?_, ?_⟩
  · unfold wearR; rw [if_pos (by rw [hw]; exact hf), hw]
  · unfold bestR; rw [if_pos (by rw [hw]; exact hf), hw]
theorem wear_out {b : Brd} {worn wk : List Int} {k : Int} (h : errB b = 0) (hf : formB b.nums.length worn [wk] = 0) (hk : ins 0 (b.nums.length - 1) [k] = false) : wearR b worn wk k = ([], 3) := by
  unfold wearR; rw [if_neg (by rw [wat_form h, hf]; simp), if_neg (by simp [hk])]
theorem wear_in {b : Brd} {worn wk : List Int} {k : Int} (h : errB b = 0) (hf : formB b.nums.length worn [wk] = 0) (hk : ins 0 (b.nums.length - 1) [k] = true) :
    wearR b worn wk k = if 1000000000 < maxL (afterL worn wk k.toNat) then ([], 8) else (afterL worn wk k.toNat, 0) := by
  unfold wearR; rw [if_neg (by rw [wat_form h, hf]; simp), if_pos hk]
theorem best_of {b : Brd} {worn wk : List Int} {p : List Int × List Int} (h : errB b = 0) (hf : formB b.nums.length worn [wk] = 0) (hp : bestL (plansL [wk] [] worn) = some p) :
    bestR b worn wk = if 1000000000 < maxL p.2 then (0, 0, 8) else (p.1.headD 0, maxL p.2, 0) := by
  have e : bestP worn [wk] = p := by unfold bestP; rw [hp]; rfl
  unfold bestR; rw [if_neg (by rw [wat_form h, hf]; simp), e]
theorem same_self (b : Brd) : sameB b b = true := by unfold sameB; simp
theorem form_good {n : Nat} {worn : List Int} {wks : List (List Int)} (h : formB n worn wks = 0) : worn.length = n ∧ wksOk n wks ∧ (∀ y ∈ worn, 0 ≤ y ∧ y ≤ 1000000000) ∧ ∀ wk ∈ wks, ∀ y ∈ wk, 0 ≤ y ∧ y ≤ 1000000 := by
  unfold formB at h
  split at h
  · cases h
  · rename_i h1
    split at h
    · cases h
    · rename_i h2
      simp only [Bool.or_eq_true, not_or, decide_eq_true_eq, Decidable.not_not, Bool.not_eq_true', Bool.not_eq_false, List.any_eq_true, not_exists, not_and] at h1 h2
      obtain ⟨h3, h4⟩ := h1
      obtain ⟨h5, h6⟩ := h2
      have key : ∀ wk ∈ wks, ∀ y ∈ wk, 0 ≤ y ∧ y ≤ 1000000 := fun wk hw => by
        have := h6 wk hw
        exact ins_all (by cases hi : ins 0 1000000 wk <;> simp_all)
      refine ⟨h3, fun wk hw => ⟨?_, fun y hy => by have := key wk hw y hy; omega⟩, ins_all h5, key⟩
      have := h4 wk hw
      simpa using this
theorem small_of {b : Brd} (h : greatB b = false) : SmallB b := by
  unfold greatB at h
  simp only [Bool.or_eq_false_iff, decide_eq_false_iff_not] at h
  obtain ⟨h1, h2, h3, -⟩ := h
  exact ⟨by omega, by omega, by omega⟩
theorem one_set {w : World} {b : Nat} {v0 : Value} (h : Blk w b #[v0]) (x0 : Value) : Blk (w.setCell ⟨b, 0, none⟩ x0) b #[x0] := by
  have h0 : Blk _ b #[x0] := h.set 0 x0
  exact h0
theorem one_chg (S : Nat → Prop) (w : World) {b : Nat} (hb : S b) (x0 : Value) : Chg S w (w.setCell ⟨b, 0, none⟩ x0) := ((Chg.refl S w).setCell (.inr hb) x0)
theorem two_set {w : World} {b : Nat} {v0 v1 : Value} (h : Blk w b #[v0, v1]) (x0 x1 : Value) : Blk ((w.setCell ⟨b, 0, none⟩ x0).setCell ⟨b, 1, none⟩ x1) b #[x0, x1] := by
  have h0 : Blk _ b #[x0, v1] := h.set 0 x0
  have h1 : Blk _ b #[x0, x1] := h0.set 1 x1
  exact h1
theorem two_chg (S : Nat → Prop) (w : World) {b : Nat} (hb : S b) (x0 x1 : Value) : Chg S w ((w.setCell ⟨b, 0, none⟩ x0).setCell ⟨b, 1, none⟩ x1) := (((Chg.refl S w).setCell (.inr hb) x0).setCell (.inr hb) x1)
theorem four_set {w : World} {b : Nat} {v0 v1 v2 v3 : Value} (h : Blk w b #[v0, v1, v2, v3]) (x0 x1 x2 x3 : Value) : Blk ((((w.setCell ⟨b, 0, none⟩ x0).setCell ⟨b, 1, none⟩ x1).setCell ⟨b, 2, none⟩ x2).setCell ⟨b, 3, none⟩ x3) b #[x0, x1, x2, x3] := by
  have h0 : Blk _ b #[x0, v1, v2, v3] := h.set 0 x0
  have h1 : Blk _ b #[x0, x1, v2, v3] := h0.set 1 x1
  have h2 : Blk _ b #[x0, x1, x2, v3] := h1.set 2 x2
  have h3 : Blk _ b #[x0, x1, x2, x3] := h2.set 3 x3
  exact h3
theorem four_chg (S : Nat → Prop) (w : World) {b : Nat} (hb : S b) (x0 x1 x2 x3 : Value) : Chg S w ((((w.setCell ⟨b, 0, none⟩ x0).setCell ⟨b, 1, none⟩ x1).setCell ⟨b, 2, none⟩ x2).setCell ⟨b, 3, none⟩ x3) := (((((Chg.refl S w).setCell (.inr hb) x0).setCell (.inr hb) x1).setCell (.inr hb) x2).setCell (.inr hb) x3)
theorem six_set {w : World} {b : Nat} {v0 v1 v2 v3 v4 v5 : Value} (h : Blk w b #[v0, v1, v2, v3, v4, v5]) (x0 x1 x2 x3 x4 x5 : Value) : Blk ((((((w.setCell ⟨b, 0, none⟩ x0).setCell ⟨b, 1, none⟩ x1).setCell ⟨b, 2, none⟩ x2).setCell ⟨b, 3, none⟩ x3).setCell ⟨b, 4, none⟩ x4).setCell ⟨b, 5, none⟩ x5) b #[x0, x1, x2, x3, x4, x5] := by
  have h0 : Blk _ b #[x0, v1, v2, v3, v4, v5] := h.set 0 x0
  have h1 : Blk _ b #[x0, x1, v2, v3, v4, v5] := h0.set 1 x1
  have h2 : Blk _ b #[x0, x1, x2, v3, v4, v5] := h1.set 2 x2
  have h3 : Blk _ b #[x0, x1, x2, x3, v4, v5] := h2.set 3 x3
  have h4 : Blk _ b #[x0, x1, x2, x3, x4, v5] := h3.set 4 x4
  have h5 : Blk _ b #[x0, x1, x2, x3, x4, x5] := h4.set 5 x5
  exact h5
theorem six_chg (S : Nat → Prop) (w : World) {b : Nat} (hb : S b) (x0 x1 x2 x3 x4 x5 : Value) : Chg S w ((((((w.setCell ⟨b, 0, none⟩ x0).setCell ⟨b, 1, none⟩ x1).setCell ⟨b, 2, none⟩ x2).setCell ⟨b, 3, none⟩ x3).setCell ⟨b, 4, none⟩ x4).setCell ⟨b, 5, none⟩ x5) := (((((((Chg.refl S w).setCell (.inr hb) x0).setCell (.inr hb) x1).setCell (.inr hb) x2).setCell (.inr hb) x3).setCell (.inr hb) x4).setCell (.inr hb) x5)
def codeSeq (n : Nat) : Code → Option Code
  | .block _ c => codeSeq n c
  | .seq (.seq (.region m l d) x) b => if m = n then some (.seq (.seq (.region m l d) x) b) else codeSeq n b
  | .seq _ b => codeSeq n b
  | _ => none
/-- What an operation hands back is not looked at later. -/
def AnyF (_v : Value) (_s : Nat) (_w : World) : Prop := True
theorem AnyF.chg {v : Value} {s : Nat} {w w' : World} {S : Nat → Prop} (_ : AnyF v s w) (_ : Chg S w w') (_ : ∀ k, S k → k < s) : AnyF v s w' := trivial
/-- Integers that may be read, in memory from s on. -/
def RdF (xs : List Int) (v : Value) (s : Nat) (w : World) : Prop := RdI (fun k => k < s) w v xs
theorem RdF.chg {xs : List Int} {v : Value} {s : Nat} {w w' : World} {S : Nat → Prop} (h : RdF xs v s w) (hx : Chg S w w') (hs : ∀ k, S k → k < s) : RdF xs v s w' :=
  h.keep (Kc.of_chg (hx.mono fun k _ hk => hs k hk))
theorem RdF.rd {xs : List Int} {v : Value} {s : Nat} {w : World} (h : RdF xs v s w) : RdI S0 w v xs := RdI.sub h fun _ _ _ => id
theorem RdF.own {xs : List Int} {v : Value} {s base : Nat} {w : World} (h : OwnI w base v xs) (hb : s ≤ base) : RdF xs v s w := RdI.of_own h fun k hk => by omega
/-- A slice of one list. -/
def WkS (v : Value) : Prop := ∃ k, v = .slice (some ⟨k, 0, none⟩) 1 1
def Rik.wk1 (wk : List Int) : Rik := ⟨true, WkS, fun v w => ∃ k, v = .slice (some ⟨k, 0, none⟩) 1 1 ∧ WkC w (some ⟨k, 0, none⟩) [wk], fun _ _ _ ⟨k, e, h⟩ hx => ⟨k, e, h.ext hx⟩, .slice (some ⟨0, 0, none⟩) 1 1, ⟨_, rfl⟩⟩
theorem wk1_at {k : Nat} {wk : List Int} {w : World} (h : ∃ k', Value.slice (some ⟨k, 0, none⟩) 1 1 = .slice (some ⟨k', 0, none⟩) 1 1 ∧ WkC w (some ⟨k', 0, none⟩) [wk]) : WkC w (some ⟨k, 0, none⟩) [wk] := by
  obtain ⟨k', e, h⟩ := h
  cases e
  exact h
/-- A list and its greatest one. -/
def PlnS (n : Nat) (m : Int) (v : Value) : Prop := ∃ a c, v = .tuple #[.slice a n c, .int .i64 m]
def Rik.pl2 (xs : List Int) (m : Int) : Rik := ⟨true, PlnS xs.length m, fun v w => ∃ a c, v = .tuple #[.slice a xs.length c, .int .i64 m] ∧ CellsAt w .i64 a xs, fun _ _ _ ⟨a, c, e, h⟩ hx => ⟨a, c, e, h.ext hx⟩, .tuple #[.slice none xs.length 0, .int .i64 m], ⟨_, _, rfl⟩⟩
theorem pl2_at {a : Option Addr} {c : Nat} {xs : List Int} {m : Int} {w : World} (h : ∃ a' c', Value.tuple #[.slice a xs.length c, .int .i64 m] = .tuple #[.slice a' xs.length c', .int .i64 m] ∧ CellsAt w .i64 a' xs) : CellsAt w .i64 a xs := by
  obtain ⟨a', c', e, h⟩ := h
  simp only [Value.tuple.injEq, Array.mk.injEq, List.cons.injEq, Value.slice.injEq, true_and, and_true] at e
  obtain ⟨rfl, rfl⟩ := e
  exact h
/-- A copy of a board of whose numbers the block is known. -/
theorem law_right (a1 a2 a3 : Option Addr) (a4 a5 a6 : Nat) (b : Brd) (w : World) (h : BrdAt w ⟨a1, a2, a3, a4, a5, a6⟩ b) (hn : BrdNil ⟨a1, a2, a3, a4, a5, a6⟩ b) (hs : SmallB b) (h0 : 0 < b.nums.length) :
    Calls Tryz.prog 11 #[.agg #[.int .i64 b.eye, .int .i64 b.bull, .slice a1 b.rings.length a4, .slice a2 b.lines.length a5, .slice a3 b.nums.length a6, .int .i64 b.wire]] w fun e w' => ∃ g1 g2 g c1 c2 c3,
      e = .returned (.agg #[.int .i64 b.eye, .int .i64 b.bull, .slice g1 b.rings.length c1, .slice g2 b.lines.length c2, .slice (some ⟨g, 0, none⟩) b.nums.length c3, .int .i64 b.wire]) ∧ w.heap.size ≤ g ∧ g < w'.heap.size ∧
      OwnI w' w.heap.size (.slice (some ⟨g, 0, none⟩) b.nums.length c3) b.nums ∧ (∀ W, Chg (· = g) w' W → RgsAt W g1 b.rings ∧ PtsAt W g2 b.lines) ∧ Ext w w' := by
  refine (law_ownF ⟨a1, a2, a3, a4, a5, a6⟩ b w h hn hs).mono ?_
  rintro e w' ⟨⟨r1, r2, r3, r4, r5, r6⟩, rfl, o1, o2, o3, o4, o5, o6, hx⟩
  simp only at o1 o2 o3 o4 o5 o6
  obtain ⟨g, c, e1, hg, hg2, -⟩ := own_head o3 h0
  cases e1
  refine ⟨r1, r2, g, r4, r5, r6, rfl, hg, hg2, o3, fun W hc => ⟨?_, ?_⟩, hx⟩
  · have o1' : OwnRg W w.heap.size (.slice r1 b.rings.length r4) b.rings := own_chg o1 hc (fun k hk e => o6 k hk (by rw [e]; rfl))
    obtain ⟨_, _, e, h1, -⟩ := o1'.cells
    cases e
    exact h1
  · have o2' : OwnPt W w.heap.size (.slice r2 b.lines.length r5) b.lines := own_chg o2 hc (fun k hk e => o4 k hk (by rw [e]; rfl))
    obtain ⟨_, _, e, h1, -⟩ := o2'.cells
    cases e
    exact h1
theorem rd_cells {W : World} {a : Option Addr} {n c : Nat} {xs : List Int} (h : RdI S0 W (.slice a n c) xs) : CellsAt W .i64 a xs := by
  obtain ⟨_, _, e, h1, -⟩ := h.cells
  cases e
  exact h1
theorem calls_rwear (xs ys : List Int) (xa ya : Option Addr) (xc yc k : Nat) (w : World) (hx : CellsAt w .i64 xa xs) (hy : CellsAt w .i64 ya ys) (hl : ys.length = xs.length) (hk : k < xs.length) (hn : xs.length ≤ 1000) (hbx : ∀ x ∈ xs, 0 ≤ x ∧ x ≤ 1000000000000) (hby : ∀ y ∈ ys, 0 ≤ y ∧ y ≤ 1000000000000) :
    Calls Tryz.prog 19 #[.slice xa xs.length xc, .slice ya ys.length yc, .int .i64 k] w fun e w' => ∃ a c, e = .returned (.slice a (afterL xs ys k).length c) ∧ RdI S0 w' (.slice a (afterL xs ys k).length c) (afterL xs ys k) ∧ Ext w w' := by
  refine (ref_wear xs ys xa ya xc yc k w hx hy (fun h => by obtain ⟨b, o, e, _⟩ := hx 0 (by omega); rw [h] at e; cases e) hl hk hn hbx hby).mono ?_
  rintro e w' ⟨v, rfl, hO, hx⟩
  have hr := RdI.of_own (S := S0) hO (fun _ _ => id)
  obtain ⟨a, c, rfl⟩ := hr.opens
  exact ⟨a, c, rfl, hr, hx⟩
theorem calls_rplan {p : List Int × List Int} (worn : List Int) (wks : List (List Int)) (wa ka : Option Addr) (wc kc : Nat) (w : World) (hp : bestL (plansL wks [] worn) = some p) (hw : CellsAt w .i64 wa worn) (hk : WkC w ka wks) (h0 : 0 < worn.length) (hn : worn.length ≤ 25) (hm : wks.length ≤ 4) (hok : wksOk worn.length wks) (hb : ∀ y ∈ worn, 0 ≤ y ∧ y ≤ 2000000000) :
    Calls Tryz.prog 17 #[.slice wa worn.length wc, .slice ka wks.length kc] w fun e w' => ∃ a c, e = .returned (.tuple #[.slice a p.1.length c, .int .i64 (maxL p.2)]) ∧ CellsAt w' .i64 a p.1 ∧ Ext w w' := by
  refine (ref_plan worn wks wa ka wc kc w hw hk h0 hn hm hok hb).mono ?_
  rintro e w' ⟨q, a, c, hq, rfl, h1, hx⟩
  rw [hp] at hq
  cases hq
  exact ⟨a, c, rfl, h1, hx⟩
theorem calls_ints2 (xs : List Int) (a : Option Addr) (c : Nat) (w : World) (hx : CellsAt w .i64 a xs) (hn : a = none → xs.length = 0 ∧ c = 0) (hl : xs.length ≤ 1000000) :
    Calls Tryz.prog 8 #[.slice a xs.length c] w fun e w' => ∃ a' c', e = .returned (.slice a' xs.length c') ∧ RdI S0 w' (.slice a' xs.length c') xs ∧ Ext w w' := by
  refine (law_ints xs a c w hx hn hl).mono ?_
  rintro e w' ⟨v, rfl, hO, hx⟩
  have hr := RdI.of_own (S := S0) hO (fun _ _ => id)
  obtain ⟨a', c', rfl⟩ := hr.opens
  exact ⟨a', c', rfl, hr, hx⟩
theorem calls_weeks2 (wks : List (List Int)) (a : Option Addr) (c : Nat) (w : World) (h : WkC w a wks) (hl : wks.length ≤ 1000) (hs : ∀ wk ∈ wks, wk.length ≤ 1000000) :
    Calls Tryz.prog 9 #[.slice a wks.length c] w fun e w' => ∃ a' c', e = .returned (.slice a' wks.length c') ∧ WksAt S0 w' (.slice a' wks.length c') wks ∧ Ext w w' := by
  refine (law_weeks wks a c w h hl hs).mono ?_
  rintro e w' ⟨v, rfl, hO, hx⟩
  obtain ⟨a', c', rfl, h2⟩ := hO
  exact ⟨a', c', rfl, ⟨_, _, rfl, h2⟩, hx⟩
theorem plan_err {b : Brd} {worn wk : List Int} {wks : List (List Int)} {lim : Int} (h : errB b ≠ 0) : planR b worn wks = ([], 0, errB b) ∧ lastR b worn wk lim = (0, errB b) := by
  have hw : watB b worn [wk] = errB b := by unfold watB; rw [if_pos h]
  refine ⟨?_, ?_⟩
  · unfold planR; rw [if_pos h]
  · unfold lastR; rw [if_pos (by rw [hw]; exact h), hw]
theorem plan_long {b : Brd} {worn : List Int} {wks : List (List Int)} (h : errB b = 0) (hl : 3 < wks.length) : planR b worn wks = ([], 0, 5) := by
  unfold planR; rw [if_neg (by simp [h]), if_pos hl]
theorem plan_form {b : Brd} {worn : List Int} {wks : List (List Int)} (h : errB b = 0) (hl : ¬ 3 < wks.length) (hf : formB b.nums.length worn wks ≠ 0) : planR b worn wks = ([], 0, formB b.nums.length worn wks) := by
  unfold planR; rw [if_neg (by simp [h]), if_neg hl, if_pos (by rw [wat_form h]; exact hf), wat_form h]
theorem plan_of {b : Brd} {worn : List Int} {wks : List (List Int)} {p : List Int × List Int} (h : errB b = 0) (hl : ¬ 3 < wks.length) (hf : formB b.nums.length worn wks = 0) (hp : bestL (plansL wks [] worn) = some p) :
    planR b worn wks = if 1000000000 < maxL p.2 then ([], 0, 8) else (p.1, maxL p.2, 0) := by
  have e : bestP worn wks = p := by unfold bestP; rw [hp]; rfl
  unfold planR; rw [if_neg (by simp [h]), if_neg hl, if_neg (by rw [wat_form h, hf]; simp), e]
theorem last_form {b : Brd} {worn wk : List Int} {lim : Int} (h : errB b = 0) (hf : formB b.nums.length worn [wk] ≠ 0) : lastR b worn wk lim = (0, formB b.nums.length worn [wk]) := by
  unfold lastR; rw [if_pos (by rw [wat_form h]; exact hf), wat_form h]
theorem last_lim {b : Brd} {worn wk : List Int} {lim : Int} (h : errB b = 0) (hf : formB b.nums.length worn [wk] = 0) (hl : ins 0 1000000000 [lim] = false) : lastR b worn wk lim = (0, 3) := by
  unfold lastR; rw [if_neg (by rw [wat_form h, hf]; simp), if_neg (by simp [hl])]
theorem last_of {b : Brd} {worn wk : List Int} {lim : Int} (h : errB b = 0) (hf : formB b.nums.length worn [wk] = 0) (hl : ins 0 1000000000 [lim] = true) : lastR b worn wk lim = (lastL wk lim 501 0 worn, 0) := by
  unfold lastR; rw [if_neg (by rw [wat_form h, hf]; simp), if_pos hl]
theorem last_step {wk u : List Int} {lim : Int} {k j : Nat} (hk : k ≤ 500) (hm : ¬ lim < maxL u) (hp : bestL (plansL [wk] [] u) = some ([(j : Int)], afterL u wk j)) : lastL wk lim (501 - k) k u = lastL wk lim (501 - (k + 1)) (k + 1) (afterL u wk j) := by
  obtain ⟨f, hf⟩ : ∃ f, 501 - k = f + 1 := ⟨500 - k, by omega⟩
  have hf2 : 501 - (k + 1) = f := by omega
  have e : bestP u [wk] = ([(j : Int)], afterL u wk j) := by unfold bestP; rw [hp]; rfl
  rw [hf, hf2, lastL, if_neg hm, e]
theorem last_hit {wk u : List Int} {lim : Int} {k : Nat} (hk : k ≤ 500) (hm : lim < maxL u) : lastL wk lim (501 - k) k u = k := by
  obtain ⟨f, hf⟩ : ∃ f, 501 - k = f + 1 := ⟨500 - k, by omega⟩
  rw [hf, lastL, if_pos hm]
theorem sat_turn {n : Nat} {k : Int} (_h0 : 0 < n) (h : ins 0 ((n : Int) - 1) [k] = true) : ∃ j : Nat, k = (j : Int) ∧ j < n := by
  obtain ⟨h1, h2⟩ := ins_one.1 h
  exact ⟨k.toNat, by omega, by omega⟩
theorem zero_small : SmallB zeroB := ⟨by decide, by decide, by decide⟩
end Go.Proofs.YtlkbbcfbnbnagaaGreat
