/-
  A tale, plain: each visit is among those that its score can have been, so the spans hold what was thrown.
-/
import Derived.Test.YtmopadnkjlodnaaNtq
import Derived.Test.YtmopadnkjlodnaaPam
namespace Go.Proofs.Ytmopadnkjlodnaa
open Go.RowKit
theorem allF_out {gin gout : Int} {beds : List Int} {sl score : Int} {wins : Bool} {r : Nat} {left : Int} {inn : Bool} {eff : Int} {fb : List Int} {tr : Int} (h : eff ≠ 0) : allF gin gout beds sl score wins r left inn eff fb tr = leafF sl score wins left eff fb tr := by
  cases r with
  | zero => rfl
  | succ r => unfold allF; rw [if_neg h]
theorem thrown_in {gin gout : Int} {bl : List Int} {sl score : Int} {wins : Bool} : ∀ (l : List Int) (k n : Nat) (r r' : Rv) (fb : List Int), rvF gin gout bl l k r = .inl r' → k + n = 3 → (l.length = n ∨ (l.length ≤ n ∧ r'.eff ≠ 0)) → ((if r'.eff = 2 then 0 else sl - r'.left) = score ∧ (r'.eff == 1) = wins) →
    (⟨fb ++ l, r'.tried⟩ : Vi) ∈ allF gin gout bl sl score wins n r.left r.inn r.eff fb r.tried
  | [], k, n, r, r', fb, h, hk, hl, hs => by
    injection h with h
    subst h
    rw [List.append_nil]
    have key : allF gin gout bl sl score wins n r.left r.inn r.eff fb r.tried = leafF sl score wins r.left r.eff fb r.tried := by
      rcases hl with hl | hl
      · have : n = 0 := by simpa using hl.symm
        subst this
        rfl
      · exact allF_out hl.2
    rw [key]
    unfold leafF
    rw [if_pos hs]
    exact List.mem_singleton.2 rfl
  | b :: l, k, n, r, r', fb, h, hk, hl, hs => by
    unfold rvF at h
    by_cases hx : rvX bl r k b = 0
    · rw [if_pos hx] at h
      obtain ⟨h1, h2, h3⟩ := rvX_ok hx
      have hn : n ≠ 0 := by
        rintro rfl
        simp at hl
      obtain ⟨m, rfl⟩ : ∃ m, n = m + 1 := ⟨n - 1, by omega⟩
      have ih := thrown_in (sl := sl) (score := score) (wins := wins) l (k + 1) m (rvN gin gout bl r b) r' (fb ++ [b]) h (by omega) (by simp only [List.length_cons] at hl; omega) hs
      unfold allF
      rw [if_pos h2]
      refine List.mem_flatMap.2 ⟨b, ?_, ?_⟩
      · rcases h3 with h3 | h3
        · rw [h3]; exact List.mem_cons_self
        · exact List.mem_cons_of_mem _ h3
      · rw [List.append_assoc] at ih
        exact ih
    · rw [if_neg hx] at h; cases h
theorem wrt_pos {b : Int} (hb : BedOk b) (h0 : b ≠ 0) : 1 ≤ wrt b := by
  rcases hb with h | h
  · exact absurd h h0
  · unfold isBedB at h
    simp only [Bool.or_eq_true, Bool.and_eq_true, beq_iff_eq] at h
    rcases h with (rfl | rfl) | ⟨h, h'⟩
    · decide
    · decide
    · rw [ins_one] at h h'
      unfold wrt
      have := Int.mul_le_mul h.1 h'.1 (by decide) (by omega)
      omega
/-- Who is in has scored. -/
theorem rvF_in {gin gout : Int} {bl : List Int} (hB : bedsB bl = true) {L : Int} {I : Bool} : ∀ (l : List Int) (k : Nat) (r r' : Rv), rvF gin gout bl l k r = .inl r' → r.left ≤ L → (r.inn = (I || decide (r.left < L))) → r.eff = 0 ∨ l = [] → (1 ≤ r.left ∨ l = []) → r'.eff = 2 ∨ (r'.inn = (I || decide (r'.left < L)) ∧ r'.left ≤ L)
  | [], k, r, r', h, hL, hI, _, _ => by
    injection h with h
    subst h
    exact .inr ⟨hI, hL⟩
  | b :: l, k, r, r', h, hL, hI, he, h1 => by
    unfold rvF at h
    by_cases hx : rvX bl r k b = 0
    · rw [if_pos hx] at h
      obtain ⟨-, h2, h3⟩ := rvX_ok hx
      have hbo : BedOk b := by
        rcases h3 with h3 | h3
        · exact .inl h3
        · obtain ⟨i, hi, rfl⟩ := List.mem_iff_getElem.1 h3
          exact .inr ((bedsB_iff bl).1 hB i hi hi).1
      have hr1 : 1 ≤ r.left := by
        rcases h1 with h1 | h1
        · exact h1
        · cases h1
      have stop : ∀ r2 : Rv, r2.eff ≠ 0 → rvF gin gout bl l (k + 1) r2 = .inl r' → l = [] := by
        intro r2 h4 h5
        cases l with
        | nil => rfl
        | cons c l =>
          unfold rvF at h5
          rw [if_neg] at h5
          · cases h5
          · intro h6
            exact h4 (rvX_ok h6).2.1
      cases hs : skB gin r.inn b
      · have hb0 : b ≠ 0 := by
          rintro rfl
          unfold skB at hs
          simp at hs
        have hw := wrt_pos hbo hb0
        cases hn : wnB gout (r.left - wrt b) b
        · cases hbu : bsB gout (r.left - wrt b)
          · rw [rvN_on hs hn hbu] at h
            refine rvF_in hB l (k + 1) _ r' h (by dsimp only; omega) ?_ (.inl rfl) ?_
            · dsimp only
              rw [decide_eq_true (by omega), Bool.or_true]
            · left
              dsimp only
              unfold bsB at hbu
              by_cases h4 : r.left - wrt b < 2
              · rw [decide_eq_true h4, Bool.true_and, Bool.or_eq_false_iff] at hbu
                have := hbu.1
                simp at this
                omega
              · omega
          · rw [rvN_bust hs hn hbu] at h
            have := stop _ (show (2 : Int) ≠ 0 by decide) h
            subst this
            injection h with h
            subst h
            exact .inl rfl
        · rw [rvN_win hs hn] at h
          have := stop _ (show (1 : Int) ≠ 0 by decide) h
          subst this
          injection h with h
          subst h
          right
          dsimp only
          rw [decide_eq_true (by omega), Bool.or_true]
          exact ⟨rfl, by omega⟩
      · rw [rvN_skip hs] at h
        exact rvF_in hB l (k + 1) _ r' h hL hI (.inl rfl) (.inl hr1)
    · rw [if_neg hx] at h; cases h
/-- Behind a winning dart nothing is left. -/
theorem rvF_win {gin gout : Int} {bl : List Int} : ∀ {l : List Int} {k : Nat} {r r' : Rv}, rvF gin gout bl l k r = .inl r' → r'.eff = 1 → r.eff ≠ 1 → r'.left = 0 ∧ r'.inn = true
  | [], k, r, r', h, h1, h2 => by injection h with h; subst h; exact absurd h1 h2
  | b :: l, k, r, r', h, h1, h2 => by
    unfold rvF at h
    by_cases hx : rvX bl r k b = 0
    · rw [if_pos hx] at h
      by_cases h3 : (rvN gin gout bl r b).eff = 1
      · have hl : l = [] := by
          cases l with
          | nil => rfl
          | cons c l =>
            unfold rvF at h
            rw [if_neg] at h
            · cases h
            · intro h6
              have := (rvX_ok h6).2.1
              omega
        subst hl
        injection h with h
        subst h
        cases hs : skB gin r.inn b
        · cases hn : wnB gout (r.left - wrt b) b
          · cases hbu : bsB gout (r.left - wrt b)
            · rw [rvN_on hs hn hbu] at h1; simp at h1
            · rw [rvN_bust hs hn hbu] at h1; simp at h1
          · rw [rvN_win hs hn]; exact ⟨rfl, rfl⟩
        · rw [rvN_skip hs] at h1; simp at h1
      · exact rvF_win h h1 h3
    · rw [if_neg hx] at h; cases h
/-- What one more visit does to a leg. -/
theorem rxG_scores {gin gout : Int} {bl : List Int} : ∀ (vs : List (List Int)) (i : Nat) (e x : Exa), rxG gin gout bl vs i e = .inl x → ∃ t, x.scores = e.scores ++ t ∧ t.length = vs.length
  | [], i, e, x, h => by injection h with h; subst h; exact ⟨[], by simp, rfl⟩
  | vb :: vs, i, e, x, h => by
    unfold rxG at h
    split at h
    · rename_i h0
      obtain ⟨t, h1, h2⟩ := rxG_scores vs (i + 1) _ x h
      unfold rxS at h1
      cases hr : rvE gin gout bl e vb with
      | inr y =>
        unfold rxE at h0
        rw [hr] at h0
        split at h0
        · simp at h0
        · dsimp only at h0
          unfold rvE at hr
          cases hf : rvF gin gout bl vb 0 ⟨e.left, e.inn, 0, 0⟩ with
          | inr z =>
            rw [hf] at hr
            injection hr with hr
            exfalso
            have : ∀ (l : List Int) (k : Nat) (r : Rv), rvF gin gout bl l k r ≠ .inr 0 := by
              intro l
              induction l with
              | nil => intro k r h; cases h
              | cons b l ih =>
                intro k r h
                unfold rvF at h
                split at h
                · exact ih _ _ h
                · rename_i h2; injection h with h; exact h2 h
            rw [hr, h0] at hf
            exact this _ _ _ hf
          | inl r =>
            rw [hf] at hr
            dsimp only at hr
            split at hr
            · injection hr with hr; omega
            · cases hr
      | inl r =>
        rw [hr] at h1
        dsimp only at h1
        rw [rxU_sc] at h1
        exact ⟨_ :: t, by rw [h1, List.append_assoc]; rfl, by simp [h2]⟩
    · cases h
theorem rxE_ok {gin gout : Int} {bl : List Int} {e : Exa} {vb : List Int} (h : rxE gin gout bl e vb = 0) : e.won = false ∧ ∃ r, rvE gin gout bl e vb = .inl r ∧ rxS gin gout bl e vb = rxU e vb.length r := by
  unfold rxE at h
  cases hw : e.won
  · rw [hw, if_neg (by decide)] at h
    refine ⟨rfl, ?_⟩
    cases hr : rvE gin gout bl e vb with
    | inl r => exact ⟨r, rfl, by unfold rxS; rw [hr]⟩
    | inr y =>
      rw [hr] at h
      dsimp only at h
      exfalso
      unfold rvE at hr
      cases hf : rvF gin gout bl vb 0 ⟨e.left, e.inn, 0, 0⟩ with
      | inr z =>
        rw [hf] at hr
        injection hr with hr
        have : ∀ (l : List Int) (k : Nat) (r : Rv), rvF gin gout bl l k r ≠ .inr 0 := by
          intro l
          induction l with
          | nil => intro k r h; cases h
          | cons b l ih =>
            intro k r h
            unfold rvF at h
            split at h
            · exact ih _ _ h
            · rename_i h2; injection h with h; exact h2 h
        rw [hr, h] at hf
        exact this _ _ _ hf
      | inl r =>
        rw [hf] at hr
        dsimp only at hr
        split at hr
        · injection hr with hr; omega
        · cases hr
  · rw [hw, if_pos rfl] at h
    cases h
theorem rxG_app {gin gout : Int} {bl : List Int} : ∀ (p s : List (List Int)) (i : Nat) (e x : Exa), rxG gin gout bl (p ++ s) i e = .inl x → ∃ e', rxG gin gout bl p i e = .inl e' ∧ rxG gin gout bl s (i + p.length) e' = .inl x
  | [], s, i, e, x, h => ⟨e, rfl, h⟩
  | vb :: p, s, i, e, x, h => by
    rw [List.cons_append] at h
    unfold rxG at h
    split at h
    · rename_i h0
      obtain ⟨e', h1, h2⟩ := rxG_app p s (i + 1) _ x h
      refine ⟨e', by unfold rxG; rw [if_pos h0]; exact h1, ?_⟩
      rw [List.length_cons, show i + (p.length + 1) = i + 1 + p.length from by omega]
      exact h2
    · cases h
theorem rxG_okx {start gin gout : Int} {bl : List Int} (hL : lawsB start gin gout bl = true) : ∀ (vs : List (List Int)) (i : Nat) (e x : Exa), ExOk start gout e → rxG gin gout bl vs i e = .inl x → ExOk start gout x
  | [], i, e, x, he, h => by injection h with h; subst h; exact he
  | vb :: vs, i, e, x, he, h => by
    unfold rxG at h
    split at h
    · rename_i h0
      obtain ⟨h1, h2⟩ := exa_step hL e he vb
      exact rxG_okx hL vs (i + 1) _ x (h2 (by rw [h1]; exact h0)).2 h
    · cases h
/-- The k-th visit of a leg that was thrown. -/
structure StepK (start gin gout : Int) (bl : List Int) (vs : List (List Int)) (x : Exa) (k : Nat) (hk : k < vs.length) (e : Exa) (r : Rv) : Prop where
  pre : rxG gin gout bl (vs.take k) 0 (exa0 start) = .inl e
  won : e.won = false
  run : rvE gin gout bl e vs[k] = .inl r
  post : rxG gin gout bl (vs.take (k + 1)) 0 (exa0 start) = .inl (rxU e vs[k].length r)
  st : StOk start gout e.left e.inn
  sco : x.scores.take k = e.scores ∧ e.scores.length = k
  sk : x.scores[k]? = some (e.left - (rxU e vs[k].length r).left)
theorem step_k {start gin gout : Int} {bl : List Int} {vs : List (List Int)} {x : Exa} (hL : lawsB start gin gout bl = true) (h : rxG gin gout bl vs 0 (exa0 start) = .inl x) (k : Nat) (hk : k < vs.length) : ∃ e r, StepK start gin gout bl vs x k hk e r := by
  have hs : 2 ≤ start := by have := cntB_start (laws_cnt hL).1; omega
  have he0 : ExOk start gout (exa0 start) := by
    refine .inr ⟨?_, Int.le_refl _, fun _ => rfl⟩
    unfold leastS exa0
    dsimp only
    split <;> omega
  obtain ⟨e, h1, h2⟩ := rxG_app (vs.take k) (vs.drop k) 0 (exa0 start) x (by rw [List.take_append_drop]; exact h)
  have h3 := h2
  rw [List.drop_eq_getElem_cons hk] at h2
  unfold rxG at h2
  split at h2
  · rename_i h0
    obtain ⟨w0, r, w1, w2⟩ := rxE_ok h0
    have hE := rxG_okx hL _ _ _ _ he0 h1
    have hst : StOk start gout e.left e.inn := by
      rcases hE with h4 | h4
      · rw [w0] at h4; cases h4
      · exact h4
    obtain ⟨t1, a1, a2⟩ := rxG_scores _ _ _ _ h1
    rw [w2] at h2
    obtain ⟨t2, b1, b2⟩ := rxG_scores _ _ _ _ h2
    have hel : e.scores = t1 := by rw [a1]; rfl
    have hell : e.scores.length = k := by rw [hel, a2, List.length_take, Nat.min_eq_left (by omega)]
    rw [rxU_sc, List.append_assoc] at b1
    refine ⟨e, r, h1, w0, w1, ?_, hst, ⟨?_, hell⟩, ?_⟩
    · rw [List.take_succ_eq_append_getElem hk, rxG_snoc _ _ _ _ _ h1 h0, w2]
    · rw [b1, List.take_append_of_le_length (by omega), List.take_of_length_le (by omega)]
    · rw [b1, List.getElem?_append_right (by omega), hell, Nat.sub_self]
      rfl
  · cases h2
theorem rvE_run {gin gout : Int} {bl : List Int} {e : Exa} {vb : List Int} {r : Rv} (h : rvE gin gout bl e vb = .inl r) : rvF gin gout bl vb 0 ⟨e.left, e.inn, 0, 0⟩ = .inl r ∧ (3 ≤ vb.length ∨ r.eff ≠ 0) := by
  unfold rvE at h
  cases hf : rvF gin gout bl vb 0 ⟨e.left, e.inn, 0, 0⟩ with
  | inr z => rw [hf] at h; cases h
  | inl r2 =>
    rw [hf] at h
    dsimp only at h
    split at h
    · cases h
    · rename_i h2
      injection h with h
      subst h
      refine ⟨rfl, ?_⟩
      by_cases h3 : 3 ≤ vb.length
      · exact .inl h3
      · exact .inr (fun h4 => h2 ⟨by omega, h4⟩)
/-- The stand ahead of a visit is what the scores say. -/
theorem step_st {start gin gout : Int} {bl : List Int} {vs : List (List Int)} {x : Exa} (hL : lawsB start gin gout bl = true) (h : rxG gin gout bl vs 0 (exa0 start) = .inl x) : ∀ (k : Nat) (e : Exa), k ≤ vs.length → rxG gin gout bl (vs.take k) 0 (exa0 start) = .inl e → stT start x.scores k = ⟨e.left, e.inn⟩
  | 0, e, _, he => by
    have : e = exa0 start := by rw [List.take_zero] at he; injection he with he; exact he.symm
    rw [this]
    rfl
  | k + 1, e', hk, he => by
    obtain ⟨e, r, hS⟩ := step_k hL h k (by omega)
    have ih := step_st hL h k e (by omega) hS.pre
    have e1 : e' = rxU e vs[k].length r := by have := hS.post; rw [he] at this; injection this
    subst e1
    have hg : x.scores.getD k 0 = e.left - (rxU e vs[k].length r).left := by rw [List.getD_eq_getElem?_getD, hS.sk]; rfl
    have hB := (laws_cnt hL).2
    have hs1 := hS.st
    have hs : start ≤ 1001 := by have := cntB_start (laws_cnt hL).1; omega
    have hl := leastS_pos gout
    obtain ⟨hrun, -⟩ := rvE_run hS.run
    have hin := rvF_in hB (L := e.left) (I := e.inn) vs[k] 0 ⟨e.left, e.inn, 0, 0⟩ r hrun (Int.le_refl _) (by simp) (.inl rfl) (.inl (by dsimp only; have := hs1.1; omega))
    show (⟨wrap64 ((stT start x.scores k).left - x.scores.getD k 0), (stT start x.scores k).inn || decide (0 < x.scores.getD k 0)⟩ : Sd) = _
    rw [ih, hg]
    dsimp only
    have hrl := rvF_left hB vs[k] 0 _ r start hs1 hrun
    have hb : 0 ≤ (rxU e vs[k].length r).left ∧ (rxU e vs[k].length r).left ≤ 1001 := by
      rw [rxU_left]
      split
      · have := hs1.1; have := hs1.2.1; omega
      · rcases hrl with h1 | h1
        · rcases hin with h2 | h2
          · omega
          · have h3 := (rvF_win hrun h1 (show (0 : Int) ≠ 1 by decide)).1
            omega
        · have := h1.1; have := h1.2.1; omega
    have hw : wrap64 (e.left - (e.left - (rxU e vs[k].length r).left)) = (rxU e vs[k].length r).left := by
      rw [wrap64_in' ⟨by have := hs1.1; have := hs1.2.1; omega, by have := hs1.1; have := hs1.2.1; omega⟩]
      omega
    rw [hw]
    congr 1
    rw [rxU_left, rxU_inn]
    by_cases h2 : r.eff = 2
    · rw [if_pos h2, if_pos h2, decide_eq_false (by omega), Bool.or_false]
    · rw [if_neg h2, if_neg h2]
      rcases hin with h3 | h3
      · exact absurd h3 h2
      · rw [h3.1]
        congr 1
        by_cases h4 : r.left < e.left
        · rw [decide_eq_true h4, decide_eq_true (by omega)]
        · rw [decide_eq_false h4, decide_eq_false (by omega)]
end Go.Proofs.Ytmopadnkjlodnaa
