/-
  Plain: what search finds is the first such visit of the reference; what the reference shows is what the program shows.
-/
import Derived.Test.YtmopadnkjlodnaaLvq
import Derived.Test.YtmopadnkjlodnaaMsp
namespace Go.Proofs.Ytmopadnkjlodnaa
open Go.RowKit
/-- Whether a visit has so many darts (and tries). -/
def okV (D tr : Int) (v : Vi) : Bool := decide ((v.beds.length : Int) = D) && (decide (tr < 0) || decide (v.tried = tr))
theorem allF_more {gin gout : Int} {beds : List Int} {sl score : Int} {wins : Bool} : ∀ (r : Nat) (left : Int) (inn : Bool) (eff : Int) (fb : List Int) (tr : Int) (v : Vi), v ∈ allF gin gout beds sl score wins r left inn eff fb tr → fb.length ≤ v.beds.length
  | 0, left, inn, eff, fb, tr, v, h => by rw [leaf_beds h]; exact Nat.le_refl _
  | r + 1, left, inn, eff, fb, tr, v, h => by
    unfold allF at h
    split at h
    · obtain ⟨b, -, h1⟩ := List.mem_flatMap.1 h
      have := allF_more r _ _ _ _ _ v h1
      rw [List.length_append, List.length_singleton] at this
      omega
    · rw [leaf_beds h]; exact Nat.le_refl _
theorem leaf_find {sl score : Int} {wins : Bool} {left eff : Int} {fb : List Int} {tr D t : Int} : ((leafF sl score wins left eff fb tr).find? (okV D t)).map Vi.beds = if ((if eff = 2 then 0 else sl - left) = score ∧ (eff == 1) = wins) ∧ okV D t ⟨fb, tr⟩ = true then some fb else none := by
  unfold leafF
  by_cases h : (if eff = 2 then 0 else sl - left) = score ∧ (eff == 1) = wins
  · rw [if_pos h]
    by_cases h2 : okV D t ⟨fb, tr⟩ = true
    · rw [if_pos ⟨h, h2⟩, List.find?_cons_of_pos h2]; rfl
    · rw [if_neg (fun e => h2 e.2), List.find?_cons_of_neg h2]; rfl
  · rw [if_neg h, if_neg (fun e => h e.1)]; rfl
theorem src_all {gin gout : Int} {beds : List Int} {start : Sd} {g : Gl} {D tr : Int} : ∀ (d : Nat) (n : Nw) (first : List Int) (r : Nat), (first.length : Int) + d = D → first.length + r = 3 → d ≤ r → 0 < d →
    srcF gin gout beds start ⟨g, D, tr⟩ d n first = ((allF gin gout beds start.left g.score g.wins r n.left n.inn 0 first n.tried).find? (okV D tr)).map Vi.beds
  | 0, _, _, _, _, _, _, h => absurd h (by omega)
  | d + 1, n, first, 0, _, _, h, _ => absurd h (by omega)
  | d + 1, n, first, r + 1, hD, hr, hdr, _ => by
    unfold srcF allF
    rw [if_pos rfl, List.find?_flatMap, List.map_findSome?]
    congr 1
    funext b
    have hfl : (first ++ [b]).length = first.length + 1 := by simp
    show srcB gin gout beds start ⟨g, D, tr⟩ (srcF gin gout beds start ⟨g, D, tr⟩ d) n first b = ((allF gin gout beds start.left g.score g.wins r (hitS gin gout n.left n.inn b).1 (hitS gin gout n.left n.inn b).2.1 (hitS gin gout n.left n.inn b).2.2 (first ++ [b]) (n.tried + finI gin gout beds n.left n.inn)).find? (okV D tr)).map Vi.beds
    have hE : stpE gin gout n b = (hitS gin gout n.left n.inn b).2.2 := rfl
    have hT : triN gin gout beds n = n.tried + finI gin gout beds n.left n.inn := rfl
    obtain ⟨g0, g1⟩ := g
    have last : ∀ (E : Int), stpE gin gout n b = E → (E ≠ 0 ∨ (first.length + 1 = 3 ∧ (first.length : Int) + 1 = D)) →
        srcB gin gout beds start ⟨⟨g0, g1⟩, D, tr⟩ (srcF gin gout beds start ⟨⟨g0, g1⟩, D, tr⟩ d) n first b = if ((if E = 2 then 0 else start.left - (hitS gin gout n.left n.inn b).1) = g0 ∧ (E == 1) = g1) ∧ okV D tr ⟨first ++ [b], n.tried + finI gin gout beds n.left n.inn⟩ = true then some (first ++ [b]) else none := by
      intro E hEE hor
      have hiff : hasB gin gout beds start ⟨⟨g0, g1⟩, D, tr⟩ n first.length b = true ↔ ((if E = 2 then 0 else start.left - (hitS gin gout n.left n.inn b).1) = g0 ∧ (E == 1) = g1) ∧ okV D tr ⟨first ++ [b], n.tried + finI gin gout beds n.left n.inn⟩ = true := by
        have hAL : start.left - (aftS gin gout start n b).left = if E = 2 then 0 else start.left - (hitS gin gout n.left n.inn b).1 := by
          unfold aftS
          rw [hEE]
          by_cases h2 : E = 2
          · rw [if_pos h2, if_pos h2]; omega
          · rw [if_neg h2, if_neg h2]
        unfold hasB okV
        rw [hEE, hAL, hT, hfl]
        simp only [Bool.and_eq_true, Bool.or_eq_true, decide_eq_true_eq, Gl.mk.injEq, Bool.not_eq_true', beq_eq_false_iff_ne]
        constructor
        · rintro ⟨h1, h2, h3, -⟩
          exact ⟨h2, by push_cast; exact h1, h3⟩
        · rintro ⟨h2, h1, h3⟩
          refine ⟨by push_cast at h1; exact h1, h2, h3, ?_⟩
          rcases hor with h | h
          · exact .inl h
          · exact .inr h.1
      by_cases hc : hasB gin gout beds start ⟨⟨g0, g1⟩, D, tr⟩ n first.length b = true
      · rw [srcB_some hc, if_pos (hiff.1 hc)]
      · rw [if_neg (fun e => hc (hiff.2 e))]
        refine srcB_none (by simpa using hc) ?_
        rcases hor with h | h
        · exact .inr (by rw [hEE]; exact h)
        · exact .inl (by simpa using h.2)
    by_cases h0 : (hitS gin gout n.left n.inn b).2.2 = 0
    · rw [h0]
      by_cases hd : d = 0
      · subst hd
        have hl : (first.length : Int) + 1 = D := by omega
        cases r with
        | zero =>
          rw [last 0 (by rw [hE, h0]) (.inr ⟨by omega, hl⟩)]
          exact leaf_find.symm
        | succ r =>
          have hno : ((allF gin gout beds start.left g0 g1 (r + 1) (hitS gin gout n.left n.inn b).1 (hitS gin gout n.left n.inn b).2.1 0 (first ++ [b]) (n.tried + finI gin gout beds n.left n.inn)).find? (okV D tr)) = none := by
            rw [List.find?_eq_none]
            intro v hv
            unfold allF at hv
            rw [if_pos rfl] at hv
            obtain ⟨c, -, h1⟩ := List.mem_flatMap.1 hv
            have h2 := allF_more r _ _ _ _ _ v h1
            rw [List.length_append, hfl, List.length_singleton] at h2
            unfold okV
            rw [decide_eq_false (by omega : ¬ (v.beds.length : Int) = D)]
            simp
          rw [hno]
          refine srcB_none ?_ (.inl (by simpa using hl))
          unfold hasB
          rw [hE, h0]
          have h3 : ¬ first.length + 1 = 3 := by omega
          simp [h3]
      · have hA : aftS gin gout start n b = ⟨(hitS gin gout n.left n.inn b).1, (hitS gin gout n.left n.inn b).2.1⟩ := by unfold aftS; rw [hE, if_neg (by rw [h0]; decide)]
        have hl : ¬ (first.length : Int) + 1 = D := by omega
        rw [srcB_rec hA rfl (by simpa using hl) (by rw [hE, h0])]
        exact src_all d ⟨_, _, triN gin gout beds n⟩ (first ++ [b]) r (by rw [hfl]; push_cast; omega) (by rw [hfl]; omega) (by omega) (by omega)
    · rw [allF_leaf _ _ _ _ _ _ h0, last _ hE (.inl h0)]
      exact leaf_find.symm
/-- Whether a visit stands ahead of another one. -/
def smlB : List Int → List Int → Bool
  | x :: a, y :: b => if x = y then smlB a b else decide (x < y)
  | _, _ => false
theorem smlB_pre (p a b : List Int) : smlB (p ++ a) (p ++ b) = smlB a b := by
  induction p with
  | nil => rfl
  | cons x p ih => simp only [List.cons_append, smlB, if_true]; exact ih
theorem allF_pre {gin gout : Int} {beds : List Int} {sl score : Int} {wins : Bool} : ∀ (r : Nat) (left : Int) (inn : Bool) (eff : Int) (fb : List Int) (tr : Int) (v : Vi), v ∈ allF gin gout beds sl score wins r left inn eff fb tr → ∃ q, v.beds = fb ++ q
  | 0, left, inn, eff, fb, tr, v, h => ⟨[], by rw [leaf_beds h, List.append_nil]⟩
  | r + 1, left, inn, eff, fb, tr, v, h => by
    unfold allF at h
    split at h
    · obtain ⟨b, -, h1⟩ := List.mem_flatMap.1 h
      obtain ⟨q, e⟩ := allF_pre r _ _ _ _ _ v h1
      exact ⟨b :: q, by rw [e, List.append_assoc]; rfl⟩
    · exact ⟨[], by rw [leaf_beds h, List.append_nil]⟩
theorem leaf_sort (sl score : Int) (wins : Bool) (left eff : Int) (fb : List Int) (tr : Int) : (leafF sl score wins left eff fb tr).Pairwise (fun u v => smlB v.beds u.beds = false) := by
  unfold leafF
  by_cases h : (if eff = 2 then 0 else sl - left) = score ∧ (eff == 1) = wins
  · rw [if_pos h]; exact List.pairwise_singleton _ _
  · rw [if_neg h]; exact List.Pairwise.nil
theorem allF_sort {gin gout : Int} {beds : List Int} {sl score : Int} {wins : Bool} (hb : (0 :: beds).Pairwise (· < ·)) : ∀ (r : Nat) (left : Int) (inn : Bool) (eff : Int) (fb : List Int) (tr : Int), (allF gin gout beds sl score wins r left inn eff fb tr).Pairwise (fun u v => smlB v.beds u.beds = false)
  | 0, left, inn, eff, fb, tr => by
    exact leaf_sort _ _ _ _ _ _ _
  | r + 1, left, inn, eff, fb, tr => by
    unfold allF
    split
    · rw [List.pairwise_flatMap]
      refine ⟨fun b _ => allF_sort hb r _ _ _ _ _, hb.imp ?_⟩
      intro b c hbc u hu v hv
      obtain ⟨q, e1⟩ := allF_pre r _ _ _ _ _ u hu
      obtain ⟨q', e2⟩ := allF_pre r _ _ _ _ _ v hv
      rw [e1, e2, List.append_assoc, List.append_assoc, smlB_pre]
      show (if c = b then _ else decide (c < b)) = false
      rw [if_neg (by omega)]
      exact decide_eq_false (by omega)
    · exact leaf_sort _ _ _ _ _ _ _
/-- The visit that the reference shows, as its loop goes. -/
def betB (num : Vi → Int) (v b : Vi) : Bool := decide (num v < num b) || (decide (num v = num b) && (decide (v.beds.length < b.beds.length) || (decide (v.beds.length = b.beds.length) && smlB v.beds b.beds)))
def stpB (num : Vi → Int) (o : Option Vi) (v : Vi) : Option Vi := match o with
  | none => some v
  | some b => if betB num v b = true then some v else some b
def bstF (num : Vi → Int) (l : List Vi) : Option Vi := l.foldl (stpB num) none
/-- What the reference shows is the first visit with the least number, and of these the fewest darts. -/
theorem bst_first (num : Vi → Int) : ∀ (l : List Vi), l.Pairwise (fun u v => smlB v.beds u.beds = false) → l ≠ [] → ∃ b, bstF num l = some b ∧ b ∈ l ∧ (∀ u ∈ l, num b < num u ∨ (num b = num u ∧ b.beds.length ≤ u.beds.length)) ∧ l.find? (fun v => decide (num v = num b) && decide (v.beds.length = b.beds.length)) = some b := by
  intro l
  obtain ⟨m, rfl⟩ : ∃ m : List Vi, l = m.reverse := ⟨l.reverse, by simp⟩
  induction m with
  | nil => intro _ h; exact absurd rfl h
  | cons v m ih =>
    rw [List.reverse_cons]
    generalize m.reverse = l at ih
    intro hp _
    rw [List.pairwise_append] at hp
    by_cases hl : l = []
    · subst hl
      exact ⟨v, rfl, by simp, fun u hu => by simp at hu; subst hu; exact .inr ⟨rfl, Nat.le_refl _⟩, by simp⟩
    · obtain ⟨b, h1, h2, h3, h4⟩ := ih hp.1 hl
      have hsm : smlB v.beds b.beds = false := hp.2.2 b h2 v (by simp)
      have he : bstF num (l ++ [v]) = if betB num v b = true then some v else some b := by
        unfold bstF at h1 ⊢
        rw [List.foldl_append, h1]
        rfl
      by_cases hb : betB num v b = true
      · have hk : num v < num b ∨ (num v = num b ∧ v.beds.length < b.beds.length) := by
          unfold betB at hb
          rw [hsm] at hb
          simpa using hb
        refine ⟨v, by rw [he, if_pos hb], by simp, fun u hu => ?_, ?_⟩
        · rcases List.mem_append.1 hu with hu | hu
          · rcases h3 u hu with h | ⟨h, h'⟩ <;> omega
          · simp at hu; subst hu; exact .inr ⟨rfl, Nat.le_refl _⟩
        · rw [List.find?_append, List.find?_eq_none.2 (fun u hu => by
            have h := h3 u hu
            simp only [Bool.and_eq_true, decide_eq_true_eq]
            omega)]
          simp
      · have hk : ¬ (num v < num b ∨ (num v = num b ∧ v.beds.length < b.beds.length)) := by
          intro h
          apply hb
          unfold betB
          rw [hsm]
          simpa using h
        refine ⟨b, by rw [he, if_neg hb], by simp [h2], fun u hu => ?_, by rw [List.find?_append, h4]; rfl⟩
        rcases List.mem_append.1 hu with hu | hu
        · exact h3 u hu
        · simp at hu; subst hu; omega
theorem spn_is {l : List Vi} (h : l ≠ []) : (∃ v ∈ l, (v.beds.length : Int) = (spnF l).dl) ∧ (∃ v ∈ l, (v.beds.length : Int) = (spnF l).dh) ∧ (∃ v ∈ l, v.tried = (spnF l).tl) ∧ (∃ v ∈ l, v.tried = (spnF l).th) ∧ ∀ v ∈ l, ((spnF l).dl ≤ (v.beds.length : Int) ∧ (v.beds.length : Int) ≤ (spnF l).dh) ∧ ((spnF l).tl ≤ v.tried ∧ v.tried ≤ (spnF l).th) := by
  have h1 : exS (l.map (ocV ⟨0, false⟩)) ⟨0, false⟩ = some (spnF l) := by
    unfold exS
    rw [exL_map ⟨0, false⟩ _ [] (by simp), if_neg h]
    rfl
  have h2 := exS_some h1
  have key : ∀ {p : Oc → Prop}, (∃ o, o ∈ l.map (ocV ⟨0, false⟩) ∧ o.g = ⟨0, false⟩ ∧ p o) → ∃ v ∈ l, p (ocV ⟨0, false⟩ v) := by
    rintro p ⟨o, ho, -, hp⟩
    obtain ⟨v, hv, rfl⟩ := List.mem_map.1 ho
    exact ⟨v, hv, hp⟩
  refine ⟨key h2.dl, key h2.dh, key h2.tl, key h2.th, fun v hv => ?_⟩
  have := h2.all (ocV ⟨0, false⟩ v) (List.mem_map_of_mem hv) rfl
  simp only [ocV] at this
  omega
/-- By what the reference chooses. -/
def numE (en : Int) (v : Vi) : Int := if en = 1 then v.beds.length else if en = 2 then -(v.beds.length : Int) else if en = 3 then v.tried else -v.tried
theorem find_alike {l : List Vi} {p q : Vi → Bool} (h : ∀ v ∈ l, p v = q v) : l.find? p = l.find? q := by
  induction l with
  | nil => rfl
  | cons x l ih =>
    rw [List.find?_cons, List.find?_cons, h x (by simp), ih (fun v hv => h v (by simp [hv]))]
theorem src_of {gin gout : Int} {beds : List Int} (x : Sg) {D : Int} (tr : Int) (hD : 1 ≤ D ∧ D ≤ 3) : srcF gin gout beds x.s ⟨x.g, D, tr⟩ D.toNat ⟨x.s.left, x.s.inn, 0⟩ [] = ((allOf gin gout beds x).find? (okV D tr)).map Vi.beds :=
  src_all D.toNat ⟨x.s.left, x.s.inn, 0⟩ [] 3 (by simp; omega) rfl (by omega) (by omega)
theorem fnd_bst {gin gout : Int} {beds : List Int} (hb : (0 :: beds).Pairwise (· < ·)) (x : Sg) (hne : allOf gin gout beds x ≠ []) (hlen : ∀ v ∈ allOf gin gout beds x, 1 ≤ v.beds.length ∧ v.beds.length ≤ 3) (htr : ∀ v ∈ allOf gin gout beds x, 0 ≤ v.tried) (en : Int) (hen : 1 ≤ en ∧ en ≤ 4) :
    fndS gin gout beds x (wntS (spnF (allOf gin gout beds x)) en).2 (wntS (spnF (allOf gin gout beds x)) en).1 = (bstF (numE en) (allOf gin gout beds x)).map Vi.beds := by
  obtain ⟨b, h1, h2, h3, h4⟩ := bst_first (numE en) (allOf gin gout beds x) (allF_sort hb 3 _ _ _ _ _) hne
  rw [h1]
  obtain ⟨⟨v1, m1, e1⟩, ⟨v2, m2, e2⟩, ⟨v3, m3, e3⟩, ⟨v4, m4, e4⟩, hall⟩ := spn_is hne
  have hbl := hlen b h2
  have hball := hall b h2
  have one : ∀ D : Int, D = b.beds.length → (en = 1 ∨ en = 2) → [D].findSome? (fun d => srcF gin gout beds x.s ⟨x.g, d, -1⟩ d.toNat ⟨x.s.left, x.s.inn, 0⟩ []) = (some b).map Vi.beds := by
    intro D hD he
    rw [List.findSome?_cons, src_of x (-1) (by omega), ← h4, find_alike (q := fun v => decide (numE en v = numE en b) && decide (v.beds.length = b.beds.length))]
    · rw [h4]; rfl
    · intro v _
      unfold okV numE
      rcases he with rfl | rfl <;> subst hD <;> by_cases h : v.beds.length = b.beds.length <;> simp [h] <;> omega
  have more : ∀ T : Int, T = b.tried → (en = 3 ∨ en = 4) → [1, 2, 3].findSome? (fun d => srcF gin gout beds x.s ⟨x.g, d, T⟩ d.toNat ⟨x.s.left, x.s.inn, 0⟩ []) = (some b).map Vi.beds := by
    intro T hT he
    have hT0 := htr b h2
    have hnum : ∀ v, (numE en v = numE en b) ↔ v.tried = T := by
      intro v
      unfold numE
      rcases he with rfl | rfl <;> simp <;> omega
    have no : ∀ D : Int, D < b.beds.length → (allOf gin gout beds x).find? (okV D T) = none := by
      intro D hD
      rw [List.find?_eq_none]
      intro v hv hk
      unfold okV at hk
      simp only [Bool.and_eq_true, Bool.or_eq_true, decide_eq_true_eq] at hk
      obtain ⟨k1, k2⟩ := hk
      have k3 : v.tried = T := by omega
      have := h3 v hv
      have k4 := (hnum v).2 k3
      omega
    have yes : (allOf gin gout beds x).find? (okV b.beds.length T) = some b := by
      rw [← h4]
      apply find_alike
      intro v _
      unfold okV
      by_cases k1 : v.tried = T
      · rw [decide_eq_true k1, decide_eq_true ((hnum v).2 k1)]
        by_cases k2 : v.beds.length = b.beds.length <;> simp [k2]
        omega
      · rw [decide_eq_false k1, decide_eq_false (fun e => k1 ((hnum v).1 e)), decide_eq_false (by omega : ¬ T < 0)]
        simp
    simp only [List.findSome?_cons, List.findSome?_nil, src_of x T (show (1 : Int) ≤ 1 ∧ (1 : Int) ≤ 3 by omega), src_of x T (show (1 : Int) ≤ 2 ∧ (2 : Int) ≤ 3 by omega), src_of x T (show (1 : Int) ≤ 3 ∧ (3 : Int) ≤ 3 by omega)]
    by_cases k1 : b.beds.length = 1
    · rw [show (1 : Int) = (b.beds.length : Int) by omega, yes]; rfl
    · rw [no 1 (by omega)]
      by_cases k2 : b.beds.length = 2
      · rw [show (2 : Int) = (b.beds.length : Int) by omega, yes]; rfl
      · rw [no 2 (by omega), show (3 : Int) = (b.beds.length : Int) by omega, yes]; rfl
  have hn1 := h3 v1 m1
  have hn2 := h3 v2 m2
  have hn3 := h3 v3 m3
  have hn4 := h3 v4 m4
  unfold fndS wntS
  by_cases c1 : en = 1
  · subst c1
    exact one _ (by unfold numE at hn1; simp at hn1; omega) (.inl rfl)
  · by_cases c2 : en = 2
    · subst c2
      exact one _ (by unfold numE at hn2; simp at hn2; omega) (.inr rfl)
    · by_cases c3 : en = 3
      · subst c3
        exact more (spnF (allOf gin gout beds x)).tl (by unfold numE at hn3; simp at hn3; omega) (.inl rfl)
      · obtain rfl : en = 4 := by omega
        exact more (spnF (allOf gin gout beds x)).th (by unfold numE at hn4; simp at hn4; omega) (.inr rfl)
theorem finI_pos (gin gout : Int) (beds : List Int) (left : Int) (inn : Bool) : 0 ≤ finI gin gout beds left inn := by
  unfold finI
  split <;> decide
theorem leaf_tried {sl score : Int} {wins : Bool} {left eff : Int} {fb : List Int} {tr : Int} {v : Vi} (h : v ∈ leafF sl score wins left eff fb tr) : tr ≤ v.tried := by
  unfold leafF at h
  by_cases hc : (if eff = 2 then 0 else sl - left) = score ∧ (eff == 1) = wins
  · rw [if_pos hc] at h; rw [List.mem_singleton.1 h]; exact Int.le_refl _
  · rw [if_neg hc] at h; cases h
theorem allF_tried {gin gout : Int} {beds : List Int} {sl score : Int} {wins : Bool} : ∀ (r : Nat) (left : Int) (inn : Bool) (eff : Int) (fb : List Int) (tr : Int) (v : Vi), v ∈ allF gin gout beds sl score wins r left inn eff fb tr → tr ≤ v.tried
  | 0, left, inn, eff, fb, tr, v, h => by
    exact leaf_tried h
  | r + 1, left, inn, eff, fb, tr, v, h => by
    unfold allF at h
    split at h
    · obtain ⟨b, -, h1⟩ := List.mem_flatMap.1 h
      have := allF_tried r _ _ _ _ _ v h1
      have := finI_pos gin gout beds left inn
      omega
    · exact leaf_tried h
theorem allOf_len {gin gout : Int} {beds : List Int} {x : Sg} {v : Vi} (h : v ∈ allOf gin gout beds x) : 1 ≤ v.beds.length ∧ v.beds.length ≤ 3 := by
  have h1 := allF_beds 3 _ _ _ _ _ v h
  simp only [List.length_nil] at h1
  unfold allOf allF at h
  rw [if_pos rfl] at h
  obtain ⟨b, -, h2⟩ := List.mem_flatMap.1 h
  have h3 := allF_more 2 _ _ _ _ _ v h2
  simp only [List.nil_append, List.length_singleton] at h3
  exact ⟨h3, by omega⟩
/-- What the reference shows of a visit. -/
def shoB (en : Int) (l : List Vi) : List Int := ((bstF (numE en) l).map Vi.beds).getD []
theorem shw_fold {gin gout : Int} {beds : List Int} (hb : (0 :: beds).Pairwise (· < ·)) {en : Int} (hen : 1 ≤ en ∧ en ≤ 4) (xs : List Ex) : ∀ (l : List Sg) (k : Nat) (ls : List (List Vi)) (acc : List (List Int)), rvG gin gout beds l k = .inl ls → xs.drop acc.length = ls.map spnF →
    l.foldl (shwT gin gout beds xs en) acc = acc ++ ls.map (shoB en)
  | [], _, ls, acc, h, _ => by injection h with h; subst h; simp
  | x :: l, k, ls, acc, h, hx => by
    unfold rvG at h
    split at h
    · cases h
    · rename_i hne
      cases hr : rvG gin gout beds l (k + 1) with
      | inr n => rw [hr] at h; cases h
      | inl r =>
        rw [hr] at h
        injection h with h
        subst h
        have hg : xs.getD acc.length noEx = spnF (allOf gin gout beds x) := by
          have := congrArg (fun m => m[0]?) hx
          simp only [List.getElem?_drop, List.map_cons, List.getElem?_cons_zero, Nat.add_zero] at this
          rw [List.getD_eq_getElem?_getD, this]
          rfl
        obtain ⟨b, h1, -⟩ := bst_first (numE en) (allOf gin gout beds x) (allF_sort hb 3 _ _ _ _ _) hne
        have hs : shwT gin gout beds xs en acc x = acc ++ [shoB en (allOf gin gout beds x)] := by
          unfold shwT shoB
          rw [hg, fnd_bst hb x hne (fun v hv => allOf_len hv) (fun v hv => allF_tried 3 _ _ _ _ _ v hv) en hen, h1]
          rfl
        rw [List.foldl_cons, hs, shw_fold hb hen xs l (k + 1) r _ hr (by
          rw [List.length_append, List.length_singleton, ← List.drop_drop, hx]
          rfl)]
        simp
end Go.Proofs.Ytmopadnkjlodnaa
