/-
  MeanEnds, plain: visits that a leg's scores can have been are a leg that was thrown, with these scores.
-/
import Derived.Test.YtmopadnkjlodnaaNtu
namespace Go.Proofs.Ytmopadnkjlodnaa
open Go.RowKit
/-- Each listed visit is one that can be thrown. -/
theorem in_thrown {gin gout : Int} {bl : List Int} {sl score : Int} {wins : Bool} : ∀ (n k : Nat) (r : Rv) (fb : List Int) (v : Vi), k + n = 3 → v ∈ allF gin gout bl sl score wins n r.left r.inn r.eff fb r.tried →
    ∃ l r', v = ⟨fb ++ l, r'.tried⟩ ∧ rvF gin gout bl l k r = .inl r' ∧ (l.length = n ∨ (l.length ≤ n ∧ r'.eff ≠ 0)) ∧ ((if r'.eff = 2 then 0 else sl - r'.left) = score ∧ (r'.eff == 1) = wins)
  | 0, k, r, fb, v, hk, h => by
    have h' : v ∈ leafF sl score wins r.left r.eff fb r.tried := h
    unfold leafF at h'
    by_cases hc : (if r.eff = 2 then 0 else sl - r.left) = score ∧ (r.eff == 1) = wins
    · rw [if_pos hc] at h'
      exact ⟨[], r, by rw [List.append_nil]; exact List.mem_singleton.1 h', rfl, .inl rfl, hc⟩
    · rw [if_neg hc] at h'; cases h'
  | n + 1, k, r, fb, v, hk, h => by
    by_cases he : r.eff = 0
    · unfold allF at h
      rw [if_pos he] at h
      obtain ⟨b, hb, h1⟩ := List.mem_flatMap.1 h
      obtain ⟨l, r', e1, e2, e3, e4⟩ := in_thrown n (k + 1) (rvN gin gout bl r b) (fb ++ [b]) v (by omega) h1
      refine ⟨b :: l, r', by rw [e1, List.append_assoc]; rfl, ?_, by simp only [List.length_cons]; omega, e4⟩
      have hb' : b = 0 ∨ b ∈ bl := by
        rcases List.mem_cons.1 hb with h2 | h2
        · exact .inl h2
        · exact .inr h2
      have hx : rvX bl r k b = 0 := by
        unfold rvX
        rw [if_neg (by rintro (h2 | h2); omega; exact h2 he), bl_any hb']
        rfl
      unfold rvF
      rw [if_pos hx]
      exact e2
    · rw [allF_out he] at h
      unfold leafF at h
      by_cases hc : (if r.eff = 2 then 0 else sl - r.left) = score ∧ (r.eff == 1) = wins
      · rw [if_pos hc] at h
        exact ⟨[], r, by rw [List.append_nil]; exact List.mem_singleton.1 h, rfl, .inr ⟨Nat.zero_le _, he⟩, hc⟩
      · rw [if_neg hc] at h; cases h
/-- A visit that is among those of a goal, thrown from its stand. -/
theorem vi_run {gin gout : Int} {bl : List Int} {s : Sg} {v : Vi} (h : v ∈ allOf gin gout bl s) (e : Exa) (he : s.s = ⟨e.left, e.inn⟩) : ∃ r, rvE gin gout bl e v.beds = .inl r ∧ r.tried = v.tried ∧ e.left - (rxU e v.beds.length r).left = s.g.score ∧ (r.eff == 1) = s.g.wins := by
  unfold allOf at h
  rw [he] at h
  obtain ⟨l, r, e1, e2, e3, e4, e5⟩ := in_thrown 3 0 ⟨e.left, e.inn, 0, 0⟩ [] v rfl h
  rw [List.nil_append] at e1
  subst e1
  refine ⟨r, ?_, rfl, ?_, e5⟩
  · unfold rvE
    dsimp only
    rw [e2]
    dsimp only
    rw [if_neg]
    rintro ⟨h1, h2⟩
    rcases e3 with h3 | h3
    · omega
    · exact h3.2 h2
  · rw [← e4, rxU_left]
    dsimp only
    split
    · rw [Int.sub_self]
    · rfl
/-- Visits that the scores can have been, one for each score, are a leg with these scores. -/
theorem rx_members {start gin gout : Int} {bl : List Int} (hL : lawsB start gin gout bl = true) {scores : List Int} {won : Bool} {ws : List Vi} (hl : ws.length = scores.length) (hw : ∀ (k : Nat) (hk : k < ws.length), ws[k] ∈ allOf gin gout bl (gAt start scores won k)) :
    ∀ k, k ≤ ws.length → ∃ e, rxG gin gout bl ((ws.take k).map Vi.beds) 0 (exa0 start) = .inl e ∧ stT start scores k = ⟨e.left, e.inn⟩ ∧ e.scores = scores.take k ∧ (e.won = (won && decide (k = scores.length)) ∨ k = 0) ∧ (e.won = true → k = scores.length)
  | 0, _ => ⟨exa0 start, rfl, rfl, rfl, .inr rfl, fun h => by cases h⟩
  | k + 1, hk => by
    obtain ⟨e, h1, h2, h3, h4, h5⟩ := rx_members hL hl hw k (by omega)
    have hm := hw k (by omega)
    obtain ⟨r, r1, r2, r3, r4⟩ := vi_run hm e (by exact h2)
    have hw0 : e.won = false := by
      cases hc : e.won
      · rfl
      · have := h5 hc; omega
    have hg : scores.getD k 0 = scores[k]'(by omega) := by rw [List.getD_eq_getElem?_getD, List.getElem?_eq_getElem (by omega)]; rfl
    have r3' : e.left - (rxU e ws[k].beds.length r).left = scores[k]'(by omega) := by rw [r3]; exact hg
    have r4' : (r.eff == 1) = (won && decide (k + 1 = scores.length)) := r4
    have hx : rxE gin gout bl e ws[k].beds = 0 := by unfold rxE; rw [hw0, if_neg (by decide), r1]
    have hs : rxS gin gout bl e ws[k].beds = rxU e ws[k].beds.length r := by unfold rxS; rw [r1]
    have hrun : rxG gin gout bl ((ws.take (k + 1)).map Vi.beds) 0 (exa0 start) = .inl (rxU e ws[k].beds.length r) := by
      rw [List.take_succ_eq_append_getElem (by omega), List.map_append]
      have := rxG_snoc _ 0 _ _ ws[k].beds h1 hx
      rw [hs] at this
      exact this
    have hscn : (rxU e ws[k].beds.length r).scores = scores.take (k + 1) := by
      rw [rxU_sc, h3, r3', ← List.take_succ_eq_append_getElem]
    have hst : stT start scores (k + 1) = ⟨(rxU e ws[k].beds.length r).left, (rxU e ws[k].beds.length r).inn⟩ := by
      have hv : ((ws.take (k + 1)).map Vi.beds).length = k + 1 := by rw [List.length_map, List.length_take, Nat.min_eq_left hk]
      have key := step_st hL hrun (k + 1) (rxU e ws[k].beds.length r) (by rw [hv]; exact Nat.le_refl _) (by rw [List.take_of_length_le (by rw [hv]; exact Nat.le_refl _)]; exact hrun)
      rw [hscn] at key
      rw [← key]
      have : ∀ (m : Nat), m ≤ k + 1 → stT start (scores.take (k + 1)) m = stT start scores m := by
        intro m
        induction m with
        | zero => intro _; rfl
        | succ m ih =>
          intro hm
          have e1 : (scores.take (k + 1)).getD m 0 = scores.getD m 0 := by
            rw [List.getD_eq_getElem?_getD, List.getD_eq_getElem?_getD, List.getElem?_take_of_lt (by omega)]
          show (⟨wrap64 ((stT start (scores.take (k + 1)) m).left - (scores.take (k + 1)).getD m 0), (stT start (scores.take (k + 1)) m).inn || decide (0 < (scores.take (k + 1)).getD m 0)⟩ : Sd) = _
          rw [ih (by omega), e1]
          rfl
      rw [this (k + 1) (Nat.le_refl _)]
    refine ⟨rxU e ws[k].beds.length r, hrun, hst, hscn, .inl ?_, fun h => ?_⟩
    · rw [rxU_won, r4']
    · rw [rxU_won, r4'] at h
      simp only [Bool.and_eq_true, decide_eq_true_iff] at h
      exact h.2
/-- The end of a span that is reached. -/
def ParE (en : Int) (T0 T : Tot) (e : Exa) : Prop := (en = 1 → T.darts.lo = T0.darts.lo + e.t.darts.lo) ∧ (en = 2 → T.darts.hi = T0.darts.hi + e.t.darts.lo) ∧ (en = 3 → T.tried.lo = T0.tried.lo + e.t.tried.lo) ∧ (en = 4 → T.tried.hi = T0.tried.hi + e.t.tried.lo)
def EndV (en : Int) (sp : Ex) (n : Nat) (t : Int) : Prop := (en = 1 → (n : Int) = sp.dl) ∧ (en = 2 → (n : Int) = sp.dh) ∧ (en = 3 → t = sp.tl) ∧ (en = 4 → t = sp.th)
theorem leg_par {start gin gout : Int} {bl : List Int} {vs : List (List Int)} {x : Exa} (hL : lawsB start gin gout bl = true) (h : rxG gin gout bl vs 0 (exa0 start) = .inl x) (hv : 1 ≤ vs.length ∧ vs.length ≤ 100) {most : Int} (hm : 100 ≤ most) {T0 : Tot} (hT : TBnd 100000 T0) {en : Int}
    (hq : ∀ (k : Nat) (hk : k < vs.length) (e : Exa) (r : Rv), StepK start gin gout bl vs x k hk e r → EndV en (spnF (allOf gin gout bl (gAt start x.scores x.won k))) vs[k].length r.tried) : ∀ (k : Nat) (e : Exa), k ≤ vs.length → rxG gin gout bl (vs.take k) 0 (exa0 start) = .inl e →
    ParE en T0 (legT most ⟨start, gin, gout, bl, x.scores, x.won⟩ ((goT start x.scores x.won x.scores.length).map (fun s => spnF (allOf gin gout bl s))) T0 k) e
  | 0, e, _, he => by
    have : e = exa0 start := by rw [List.take_zero] at he; injection he with he; exact he.symm
    subst this
    have h1 : (exa0 start).t.darts.lo = 0 := rfl
    have h2 : (exa0 start).t.tried.lo = 0 := rfl
    refine ⟨?_, ?_, ?_, ?_⟩ <;> intro _ <;> simp [legT, h1, h2]
  | k + 1, e', hk, he => by
    obtain ⟨e, r, hS⟩ := step_k hL h k (by omega)
    have ih := leg_par hL h hv hm hT hq k e (by omega) hS.pre
    have hls := leg_sum hL h hv hm hT k e (by omega) hS.pre
    have e1 : e' = rxU e vs[k].length r := by have := hS.post; rw [he] at this; injection this
    have hlen := (vst_thrown hL h hv).2.1
    have hsp := spn_has (step_in hL h (by omega) hS)
    dsimp only at hsp
    have htx := tlx_all hL h hv.2 k e (by omega) hS.pre
    have hvs := vsE_of (laws_cnt hL).2 hS.st hS.run
    obtain ⟨hn, n1, n2, n3⟩ := htx.next (by have := cntB_start (laws_cnt hL).1; omega) (by omega) hS.won hvs
    rw [← e1] at n2 n3
    have hgo : ((goT start x.scores x.won x.scores.length).map (fun s => spnF (allOf gin gout bl s))).getD k noEx = spnF (allOf gin gout bl (gAt start x.scores x.won k)) := by
      rw [List.getD_eq_getElem?_getD, List.getElem?_map, goT, List.getElem?_map, List.getElem?_range (by omega)]
      rfl
    have hT' : legT most ⟨start, gin, gout, bl, x.scores, x.won⟩ ((goT start x.scores x.won x.scores.length).map (fun s => spnF (allOf gin gout bl s))) T0 (k + 1) = sumS (legT most ⟨start, gin, gout, bl, x.scores, x.won⟩ ((goT start x.scores x.won x.scores.length).map (fun s => spnF (allOf gin gout bl s))) T0 k) (spnF (allOf gin gout bl (gAt start x.scores x.won k))) (gAt start x.scores x.won k).g := by
      show (if (k : Int) < most then _ else _) = _
      rw [if_pos (by omega), hgo]
    have hqk := hq k (by omega) e r hS
    rw [hT']
    generalize legT most ⟨start, gin, gout, bl, x.scores, x.won⟩ ((goT start x.scores x.won x.scores.length).map (fun s => spnF (allOf gin gout bl s))) T0 k = T at ih hls
    generalize hsx : spnF (allOf gin gout bl (gAt start x.scores x.won k)) = sp at hsp hqk
    obtain ⟨s1, s2, s3, s4, -⟩ := hsp
    obtain ⟨-, -, -, -, i5, i6, i7, i8⟩ := hls
    rw [hS.won] at i7
    simp only [Bool.false_eq_true, if_false] at i7
    obtain ⟨-, -, -, -, ⟨t5, t6⟩, t7, t8⟩ := hT
    have htd := htx.dar
    have htt := htx.tri
    have w3 : wrap64 (T.darts.lo + sp.dl) = T.darts.lo + sp.dl := wrap64_in' ⟨by omega, by omega⟩
    have w4 : wrap64 (T.darts.hi + sp.dh) = T.darts.hi + sp.dh := wrap64_in' ⟨by omega, by omega⟩
    have w5 : wrap64 (T.tried.lo + sp.tl) = T.tried.lo + sp.tl := wrap64_in' ⟨by omega, by omega⟩
    have w6 : wrap64 (T.tried.hi + sp.th) = T.tried.hi + sp.th := wrap64_in' ⟨by omega, by omega⟩
    obtain ⟨p1, p2, p3, p4⟩ := ih
    obtain ⟨q1, q2, q3, q4⟩ := hqk
    unfold sumS
    refine ⟨fun h1 => ?_, fun h1 => ?_, fun h1 => ?_, fun h1 => ?_⟩
    · show wrap64 (T.darts.lo + sp.dl) = _
      have := p1 h1; have := q1 h1
      rw [w3]; omega
    · show wrap64 (T.darts.hi + sp.dh) = _
      have := p2 h1; have := q2 h1
      rw [w4]; omega
    · show wrap64 (T.tried.lo + sp.tl) = _
      have := p3 h1; have := q3 h1
      rw [w5]; omega
    · show wrap64 (T.tried.hi + sp.th) = _
      have := p4 h1; have := q4 h1
      rw [w6]; omega
end Go.Proofs.Ytmopadnkjlodnaa
