/-
  A tale, plain: the totals of legs that were thrown.
-/
import Derived.Test.YtmopadnkjlodnaaNtv
namespace Go.Proofs.Ytmopadnkjlodnaa
open Go.RowKit
theorem rvF_tri {gin gout : Int} {bl : List Int} : ∀ {l : List Int} {k : Nat} {r r' : Rv}, rvF gin gout bl l k r = .inl r' → r.tried ≤ r'.tried ∧ r'.tried ≤ r.tried + l.length
  | [], k, r, r', h => by injection h with h; subst h; exact ⟨Int.le_refl _, by simp⟩
  | b :: l, k, r, r', h => by
    unfold rvF at h
    by_cases hx : rvX bl r k b = 0
    · rw [if_pos hx] at h
      have ih := rvF_tri h
      have hf := finI_01 gin gout bl r.left r.inn
      have e : (rvN gin gout bl r b).tried = r.tried + finI gin gout bl r.left r.inn := rfl
      rw [e] at ih
      simp only [List.length_cons]
      push_cast
      omega
    · rw [if_neg hx] at h; cases h
theorem rvF_mem {gin gout : Int} {bl : List Int} (hB : bedsB bl = true) : ∀ {l : List Int} {k : Nat} {r r' : Rv}, rvF gin gout bl l k r = .inl r' → ∀ b ∈ l, BedOk b
  | [], k, r, r', h, b, hb => by cases hb
  | c :: l, k, r, r', h, b, hb => by
    unfold rvF at h
    by_cases hx : rvX bl r k c = 0
    · rw [if_pos hx] at h
      rcases List.mem_cons.1 hb with h1 | h1
      · subst h1
        obtain ⟨-, -, h3⟩ := rvX_ok hx
        rcases h3 with h3 | h3
        · exact .inl h3
        · obtain ⟨i, hi, rfl⟩ := List.mem_iff_getElem.1 h3
          exact .inr ((bedsB_iff bl).1 hB i hi hi).1
      · exact rvF_mem hB h b h1
    · rw [if_neg hx] at h; cases h
theorem vsE_of {start gin gout : Int} {bl : List Int} (hB : bedsB bl = true) {e : Exa} {vb : List Int} {r : Rv} (hs : StOk start gout e.left e.inn) (h : rvE gin gout bl e vb = .inl r) : VsE start gin gout bl e vb r := by
  obtain ⟨hrun, hend⟩ := rvE_run h
  have hsp := rvF_spec hB vb 0 ⟨e.left, e.inn, 0, 0⟩ r (.inl rfl) (by omega) hrun
  have ht := rvF_tri hrun
  have hl := rvF_left hB vb 0 _ r start hs hrun
  refine ⟨h, ⟨?_, by have := hsp.2.2.1; omega⟩, by simpa using ht, ?_, rvF_mem hB hrun⟩
  · cases vb with
    | nil =>
      injection hrun with hrun
      rcases hend with h1 | h1
      · simp at h1
      · rw [← hrun] at h1; exact absurd rfl h1
    | cons a b => simp
  · rcases hsp.2.1 with h1 | h1 | h1
    · rcases hl with h2 | h2
      · omega
      · exact .inr (.inr ⟨h1, h2⟩)
    · have h2 := rvF_win hrun h1 (show (0 : Int) ≠ 1 by decide)
      exact .inl ⟨h1, h2.1, h2.2⟩
    · exact .inr (.inl h1)
theorem tlx_all {start gin gout : Int} {bl : List Int} {vs : List (List Int)} {x : Exa} (hL : lawsB start gin gout bl = true) (h : rxG gin gout bl vs 0 (exa0 start) = .inl x) (hv : vs.length ≤ 100) : ∀ (k : Nat) (e : Exa), k ≤ vs.length → rxG gin gout bl (vs.take k) 0 (exa0 start) = .inl e → TlX start gout k e
  | 0, e, _, he => by
    have : e = exa0 start := by rw [List.take_zero] at he; injection he with he; exact he.symm
    rw [this]
    exact TlX.start (by have := cntB_start (laws_cnt hL).1; omega)
  | k + 1, e', hk, he => by
    obtain ⟨e, r, hS⟩ := step_k hL h k (by omega)
    have ih := tlx_all hL h hv k e (by omega) hS.pre
    have e1 : e' = rxU e vs[k].length r := by have := hS.post; rw [he] at this; injection this
    subst e1
    exact (ih.next (by have := cntB_start (laws_cnt hL).1; omega) (by omega) hS.won (vsE_of (laws_cnt hL).2 hS.st hS.run)).1
/-- The sums of a leg's first visits. -/
structure LgS (T0 T : Tot) (e : Exa) (k : Nat) : Prop where
  legs : T.legs = T0.legs
  won : T.won = T0.won + (if e.won = true then 1 else 0)
  vis : T.visits = T0.visits + k
  pts : T.points = T0.points + e.t.points
  dl : T0.darts.lo + k ≤ T.darts.lo ∧ T.darts.lo ≤ T0.darts.lo + e.t.darts.lo
  dh : T0.darts.hi + e.t.darts.lo ≤ T.darts.hi ∧ T.darts.hi ≤ T0.darts.hi + 3 * k
  tl : T0.tried.lo + (if e.won = true then 1 else 0) ≤ T.tried.lo ∧ T.tried.lo ≤ T0.tried.lo + e.t.tried.lo
  th : T0.tried.hi + e.t.tried.lo ≤ T.tried.hi ∧ T.tried.hi - T0.tried.hi ≤ T.darts.hi - T0.darts.hi
/-- Totals that don't wrap. -/
def TBnd (m : Int) (t : Tot) : Prop := (0 ≤ t.legs ∧ t.legs ≤ m) ∧ (0 ≤ t.won ∧ t.won ≤ m) ∧ (0 ≤ t.visits ∧ t.visits ≤ m) ∧ (0 ≤ t.points ∧ t.points ≤ m) ∧ ((0 ≤ t.darts.lo ∧ t.darts.lo ≤ m) ∧ (0 ≤ t.darts.hi ∧ t.darts.hi ≤ m)) ∧ ((0 ≤ t.tried.lo ∧ t.tried.lo ≤ m) ∧ (0 ≤ t.tried.hi ∧ t.tried.hi ≤ m))
theorem leg_sum {start gin gout : Int} {bl : List Int} {vs : List (List Int)} {x : Exa} (hL : lawsB start gin gout bl = true) (h : rxG gin gout bl vs 0 (exa0 start) = .inl x) (hv : 1 ≤ vs.length ∧ vs.length ≤ 100) {most : Int} (hm : 100 ≤ most) {T0 : Tot} (hT : TBnd 100000 T0) : ∀ (k : Nat) (e : Exa), k ≤ vs.length → rxG gin gout bl (vs.take k) 0 (exa0 start) = .inl e →
    LgS T0 (legT most ⟨start, gin, gout, bl, x.scores, x.won⟩ ((goT start x.scores x.won x.scores.length).map (fun s => spnF (allOf gin gout bl s))) T0 k) e k
  | 0, e, _, he => by
    have : e = exa0 start := by rw [List.take_zero] at he; injection he with he; exact he.symm
    subst this
    have h0 : (exa0 start).t.points = 0 := rfl
    have h1 : (exa0 start).t.darts.lo = 0 := rfl
    have h2 : (exa0 start).t.tried.lo = 0 := rfl
    have h3 : (exa0 start).won = false := rfl
    refine ⟨rfl, ?_, ?_, ?_, ⟨?_, ?_⟩, ⟨?_, ?_⟩, ⟨?_, ?_⟩, ⟨?_, ?_⟩⟩ <;> simp [legT, h0, h1, h2, h3]
  | k + 1, e', hk, he => by
    obtain ⟨e, r, hS⟩ := step_k hL h k (by omega)
    have ih := leg_sum hL h hv hm hT k e (by omega) hS.pre
    have e1 : e' = rxU e vs[k].length r := by have := hS.post; rw [he] at this; injection this
    have hlen := (vst_thrown hL h hv).2.1
    have hin := step_in hL h (by omega) hS
    have hsp := spn_has hin
    dsimp only at hsp
    have htx := tlx_all hL h hv.2 k e (by omega) hS.pre
    have hs1001 : start ≤ 1001 := by have := cntB_start (laws_cnt hL).1; omega
    have hvs := vsE_of (laws_cnt hL).2 hS.st hS.run
    obtain ⟨hn, n1, n2, n3⟩ := htx.next hs1001 (by omega) hS.won hvs
    rw [← e1] at hn n1 n2 n3
    have hg : x.scores.getD k 0 = e.left - e'.left := by rw [List.getD_eq_getElem?_getD, hS.sk, e1]; rfl
    have hgo : ((goT start x.scores x.won x.scores.length).map (fun s => spnF (allOf gin gout bl s))).getD k noEx = spnF (allOf gin gout bl (gAt start x.scores x.won k)) := by
      rw [List.getD_eq_getElem?_getD, List.getElem?_map, goT, List.getElem?_map, List.getElem?_range (by omega)]
      rfl
    have hT' : legT most ⟨start, gin, gout, bl, x.scores, x.won⟩ ((goT start x.scores x.won x.scores.length).map (fun s => spnF (allOf gin gout bl s))) T0 (k + 1) = sumS (legT most ⟨start, gin, gout, bl, x.scores, x.won⟩ ((goT start x.scores x.won x.scores.length).map (fun s => spnF (allOf gin gout bl s))) T0 k) (spnF (allOf gin gout bl (gAt start x.scores x.won k))) (gAt start x.scores x.won k).g := by
      show (if (k : Int) < most then _ else _) = _
      rw [if_pos (by omega), hgo]
    rw [hT']
    generalize legT most ⟨start, gin, gout, bl, x.scores, x.won⟩ ((goT start x.scores x.won x.scores.length).map (fun s => spnF (allOf gin gout bl s))) T0 k = T at ih
    generalize hsx : spnF (allOf gin gout bl (gAt start x.scores x.won k)) = sp at hsp
    have hw : (gAt start x.scores x.won k).g.wins = e'.won := by
      show (x.won && decide (k + 1 = x.scores.length)) = _
      rw [hlen]
      by_cases h1 : k + 1 = vs.length
      · rw [decide_eq_true h1, Bool.and_true]
        rw [h1, List.take_length, h] at he
        injection he with he
        rw [he]
      · rw [decide_eq_false h1, Bool.and_false]
        obtain ⟨e2, r2, hS2⟩ := step_k hL h (k + 1) (by omega)
        have h2 := hS2.pre
        rw [he] at h2
        injection h2 with h2
        rw [h2, hS2.won]
    have hsc : (gAt start x.scores x.won k).g.score = e.left - e'.left := hg
    rw [hw] at hsp
    have hew := hS.won
    obtain ⟨i1, i2, i3, i4, i5, i6, i7, i8⟩ := ih
    obtain ⟨t1, t2, t3, t4, ⟨t5, t6⟩, t7, t8⟩ := hT
    rw [hew] at i2 i7
    simp only [Bool.false_eq_true, if_false] at i2 i7
    obtain ⟨s1, s2, s3, s4, s5⟩ := hsp
    have hvl := hvs.len
    have hvt := hvs.tri
    have hst1 := hS.st
    have hlp := leastS_pos gout
    have hk100 : k ≤ 100 := by omega
    have htd := htx.dar
    have htt := htx.tri
    have htp := htx.pts
    have hnp := hn.pts
    have hnl : 0 ≤ e'.left ∧ e'.left ≤ start := by
      rcases hn.st with h1 | h1
      · have := h1.2; have := hst1.1; have := hst1.2.1; omega
      · have := h1.2.1; have := h1.2.2.1; omega
    have hel : 1 ≤ e.left ∧ e.left ≤ start := ⟨by have := hst1.1; omega, hst1.2.1⟩
    have w1 : wrap64 (T.visits + 1) = T.visits + 1 := wrap64_in' ⟨by omega, by omega⟩
    have w2 : wrap64 (T.points + (e.left - e'.left)) = T.points + (e.left - e'.left) := wrap64_in' ⟨by omega, by omega⟩
    have w3 : wrap64 (T.darts.lo + sp.dl) = T.darts.lo + sp.dl := wrap64_in' ⟨by omega, by omega⟩
    have w4 : wrap64 (T.darts.hi + sp.dh) = T.darts.hi + sp.dh := wrap64_in' ⟨by omega, by omega⟩
    have w5 : wrap64 (T.tried.lo + sp.tl) = T.tried.lo + sp.tl := wrap64_in' ⟨by omega, by omega⟩
    have w6 : wrap64 (T.tried.hi + sp.th) = T.tried.hi + sp.th := wrap64_in' ⟨by omega, by omega⟩
    have w7 : wrap64 (T.won + 1) = T.won + 1 := wrap64_in' ⟨by omega, by omega⟩
    unfold sumS
    rw [hsc, hw]
    refine ⟨i1, ?_, by show wrap64 (T.visits + 1) = _; rw [w1]; push_cast; omega, by show wrap64 (T.points + (e.left - e'.left)) = _; rw [w2]; omega, ⟨by show _ ≤ wrap64 (T.darts.lo + sp.dl); rw [w3]; push_cast; omega, by show wrap64 (T.darts.lo + sp.dl) ≤ _; rw [w3]; omega⟩,
      ⟨by show _ ≤ wrap64 (T.darts.hi + sp.dh); rw [w4]; omega, by show wrap64 (T.darts.hi + sp.dh) ≤ _; rw [w4]; push_cast; omega⟩, ⟨?_, by show wrap64 (T.tried.lo + sp.tl) ≤ _; rw [w5]; omega⟩, ⟨by show _ ≤ wrap64 (T.tried.hi + sp.th); rw [w6]; omega, by show wrap64 (T.tried.hi + sp.th) - _ ≤ wrap64 (T.darts.hi + sp.dh) - _; rw [w6, w4]; omega⟩⟩
    · show (if e'.won = true then wrap64 (T.won + 1) else T.won) = _
      cases hc : e'.won
      · simp; omega
      · simp only [if_true]; rw [w7]; omega
    · show _ ≤ wrap64 (T.tried.lo + sp.tl)
      rw [w5]
      cases hc : e'.won
      · simp; omega
      · have := s5 hc
        simp only [if_true]
        omega
end Go.Proofs.Ytmopadnkjlodnaa
