/-
  A tale, plain: a visit dart by dart, and the leg behind it.
-/
import Derived.Test.YtmopadnkjlodnaaNtc
import Derived.Test.YtmopadnkjlodnaaPxa
namespace Go.Proofs.Ytmopadnkjlodnaa
open Go.RowKit
theorem fin_bed {gin gout left b : Int} {inn : Bool} (hb : b ≠ 0) : ((hitS gin gout left inn b).2.2 == 1) = ((wrt b == left) && (opn gout b && (inn || opn gin b))) := by
  unfold hitS
  by_cases h1 : (b == 0) = true ∨ inn = false ∧ opn gin b = false
  · rw [if_pos h1]
    rcases h1 with h1 | ⟨h1, h2⟩
    · exact absurd (by simpa using h1) hb
    · rw [h1, h2]; simp
  · rw [if_neg h1]
    have h2 : (inn || opn gin b) = true := by
      cases inn
      · cases h : opn gin b
        · exact absurd (.inr ⟨rfl, h⟩) h1
        · rfl
      · rfl
    rw [h2, Bool.and_true]
    by_cases h3 : left - wrt b = 0 ∧ opn gout b = true
    · rw [if_pos h3, h3.2]
      have : wrt b = left := by omega
      simp [this]
    · rw [if_neg h3]
      have h4 : ((wrt b == left) && opn gout b) = false := by
        cases h : opn gout b
        · simp
        · have : ¬ wrt b = left := fun e => h3 ⟨by omega, h⟩
          simp [this]
      rw [h4]
      split <;> rfl
def skB (gin : Int) (inn : Bool) (b : Int) : Bool := b == 0 || (!inn && !opn gin b)
def wnB (gout l b : Int) : Bool := l == 0 && opn gout b
def bsB (gout l : Int) : Bool := decide (l < 2) && (l != 1 || gout != 0)
theorem rvN_skip {gin gout : Int} {beds : List Int} {r : Rv} {b : Int} (h : skB gin r.inn b = true) : rvN gin gout beds r b = ⟨r.left, r.inn, 0, r.tried + finI gin gout beds r.left r.inn⟩ := by
  unfold rvN hitS
  unfold skB at h
  rw [if_pos (by
    rcases Bool.or_eq_true _ _ |>.mp h with h | h
    · exact .inl h
    · simp only [Bool.and_eq_true, Bool.not_eq_true'] at h; exact .inr h)]
theorem skB_no {gin : Int} {inn : Bool} {b : Int} (h : skB gin inn b = false) : ¬ ((b == 0) = true ∨ inn = false ∧ opn gin b = false) := by
  unfold skB at h
  rw [Bool.or_eq_false_iff] at h
  rintro (h1 | ⟨h1, h2⟩)
  · rw [h.1] at h1; cases h1
  · rw [h1, h2] at h; simp at h
theorem rvN_win {gin gout : Int} {beds : List Int} {r : Rv} {b : Int} (h : skB gin r.inn b = false) (h2 : wnB gout (r.left - wrt b) b = true) : rvN gin gout beds r b = ⟨0, true, 1, r.tried + finI gin gout beds r.left r.inn⟩ := by
  unfold rvN hitS
  unfold wnB at h2
  simp only [Bool.and_eq_true, beq_iff_eq] at h2
  rw [if_neg (skB_no h), if_pos h2]
theorem wnB_no {gout l b : Int} (h : wnB gout l b = false) : ¬ (l = 0 ∧ opn gout b = true) := by
  unfold wnB at h
  rintro ⟨h1, h2⟩
  rw [h2, h1] at h
  simp at h
theorem rvN_bust {gin gout : Int} {beds : List Int} {r : Rv} {b : Int} (h : skB gin r.inn b = false) (h2 : wnB gout (r.left - wrt b) b = false) (h3 : bsB gout (r.left - wrt b) = true) : rvN gin gout beds r b = ⟨r.left, r.inn, 2, r.tried + finI gin gout beds r.left r.inn⟩ := by
  unfold rvN hitS
  unfold bsB at h3
  simp only [Bool.and_eq_true, Bool.or_eq_true, decide_eq_true_eq, bne_iff_ne, ne_eq] at h3
  rw [if_neg (skB_no h), if_neg (wnB_no h2), if_neg (by
    rintro (h4 | ⟨h4, h5⟩)
    · omega
    · rcases h3.2 with h6 | h6
      · exact h6 h4
      · exact h6 (by simpa using h5))]
theorem rvN_on {gin gout : Int} {beds : List Int} {r : Rv} {b : Int} (h : skB gin r.inn b = false) (h2 : wnB gout (r.left - wrt b) b = false) (h3 : bsB gout (r.left - wrt b) = false) : rvN gin gout beds r b = ⟨r.left - wrt b, true, 0, r.tried + finI gin gout beds r.left r.inn⟩ := by
  unfold rvN hitS
  rw [if_neg (skB_no h), if_neg (wnB_no h2), if_pos (by
    unfold bsB at h3
    by_cases h4 : 1 < r.left - wrt b
    · exact .inl h4
    · rw [decide_eq_true (by omega), Bool.true_and, Bool.or_eq_false_iff] at h3
      refine .inr ⟨by simpa using h3.1, ?_⟩
      have := h3.2
      simpa using this)]
theorem finI_01 (gin gout : Int) (beds : List Int) (left : Int) (inn : Bool) : 0 ≤ finI gin gout beds left inn ∧ finI gin gout beds left inn ≤ 1 := by
  unfold finI
  split <;> exact ⟨by decide, by decide⟩
/-- A visit while it is thrown. -/
structure VsI (start gin gout : Int) (bl : List Int) (x : Exa) (k : Nat) (bs : List Int) (r : Rv) : Prop where
  run : rvF gin gout bl bs 0 ⟨x.left, x.inn, 0, 0⟩ = .inl r
  len : bs.length = k
  eff : r.eff = 0
  tri : 0 ≤ r.tried ∧ r.tried ≤ k
  st : StOk start gout r.left r.inn
  mem : ∀ b ∈ bs, BedOk b
/-- A visit that is thrown. -/
structure VsE (start gin gout : Int) (bl : List Int) (x : Exa) (bs : List Int) (r : Rv) : Prop where
  run : rvE gin gout bl x bs = .inl r
  len : 1 ≤ bs.length ∧ bs.length ≤ 3
  tri : 0 ≤ r.tried ∧ r.tried ≤ bs.length
  fin : (r.eff = 1 ∧ r.left = 0 ∧ r.inn = true) ∨ r.eff = 2 ∨ (r.eff = 0 ∧ StOk start gout r.left r.inn)
  mem : ∀ b ∈ bs, BedOk b
theorem VsI.start {start gin gout : Int} {bl : List Int} {x : Exa} (h : StOk start gout x.left x.inn) : VsI start gin gout bl x 0 [] ⟨x.left, x.inn, 0, 0⟩ := ⟨rfl, rfl, rfl, ⟨Int.le_refl _, Int.le_refl _⟩, h, fun b hb => by cases hb⟩
theorem bl_any {bl : List Int} {b : Int} (h : b = 0 ∨ b ∈ bl) : (b != 0 && !bl.any (b == ·)) = false := by
  rcases h with rfl | h
  · rfl
  · have : bl.any (b == ·) = true := List.any_eq_true.2 ⟨b, h, by simp⟩
    rw [this]; simp
theorem VsI.step {start gin gout : Int} {bl : List Int} {x : Exa} {k : Nat} {bs : List Int} {r : Rv} (h : VsI start gin gout bl x k bs r) (hk : k < 3) {b : Int} (hb : b = 0 ∨ b ∈ bl) : rvF gin gout bl (bs ++ [b]) 0 ⟨x.left, x.inn, 0, 0⟩ = .inl (rvN gin gout bl r b) := by
  rw [rvF_append _ _ _ _ _ h.run, Nat.zero_add, h.len]
  have hx : rvX bl r k b = 0 := by
    unfold rvX
    rw [if_neg (by rintro (h1 | h1); omega; exact h1 h.eff), bl_any hb]
    rfl
  unfold rvF
  rw [if_pos hx]
  rfl
theorem VsI.on {start gin gout : Int} {bl : List Int} (hB : bedsB bl = true) {x : Exa} {k : Nat} {bs : List Int} {r : Rv} (h : VsI start gin gout bl x k bs r) (hk : k < 3) {b : Int} (hb : b = 0 ∨ b ∈ bl) (hbo : BedOk b) {r' : Rv} (hr : rvN gin gout bl r b = r') (he : r'.eff = 0) : VsI start gin gout bl x (k + 1) (bs ++ [b]) r' := by
  have hs := h.step hk hb
  rw [hr] at hs
  have hf := finI_01 gin gout bl r.left r.inn
  have ht : r'.tried = r.tried + finI gin gout bl r.left r.inn := by rw [← hr]; rfl
  refine ⟨hs, by rw [List.length_append, h.len]; rfl, he, by have := h.tri; push_cast; omega, ?_, ?_⟩
  · have h1 : rvF gin gout bl [b] k r = .inl r' := by
      have := hs
      rw [rvF_append _ _ _ _ _ h.run, Nat.zero_add, h.len] at this
      exact this
    rcases rvF_left hB [b] k r r' start h.st h1 with h2 | h2
    · omega
    · exact h2
  · intro c hc
    rcases List.mem_append.1 hc with h1 | h1
    · exact h.mem c h1
    · rw [List.mem_singleton.1 h1]; exact hbo
theorem VsI.done {start gin gout : Int} {bl : List Int} {x : Exa} {bs : List Int} {r : Rv} (h : VsI start gin gout bl x 3 bs r) : VsE start gin gout bl x bs r := by
  refine ⟨?_, by have := h.len; omega, by have := h.tri; have := h.len; omega, .inr (.inr ⟨h.eff, h.st⟩), h.mem⟩
  unfold rvE
  rw [h.run]
  dsimp only
  rw [if_neg (by have := h.len; omega)]
theorem VsI.off {start gin gout : Int} {bl : List Int} {x : Exa} {k : Nat} {bs : List Int} {r : Rv} (h : VsI start gin gout bl x k bs r) (hk : k < 3) {b : Int} (hb : b = 0 ∨ b ∈ bl) (hbo : BedOk b) {r' : Rv} (hr : rvN gin gout bl r b = r') (he : (r'.eff = 1 ∧ r'.left = 0 ∧ r'.inn = true) ∨ r'.eff = 2) : VsE start gin gout bl x (bs ++ [b]) r' := by
  have hs := h.step hk hb
  rw [hr] at hs
  have hf := finI_01 gin gout bl r.left r.inn
  have ht : r'.tried = r.tried + finI gin gout bl r.left r.inn := by rw [← hr]; rfl
  have hl : (bs ++ [b]).length = k + 1 := by rw [List.length_append, h.len]; rfl
  refine ⟨?_, by omega, by have := h.tri; rw [hl]; push_cast; omega, by rcases he with h1 | h1; exact .inl h1; exact .inr (.inl h1), ?_⟩
  · unfold rvE
    rw [hs]
    dsimp only
    rw [if_neg (by omega)]
  · intro c hc
    rcases List.mem_append.1 hc with h1 | h1
    · exact h.mem c h1
    · rw [List.mem_singleton.1 h1]; exact hbo
/-- A leg that is thrown visit by visit. -/
structure TlX (start gout : Int) (v : Nat) (x : Exa) : Prop where
  st : (x.won = true ∧ x.left = 0) ∨ (x.won = false ∧ StOk start gout x.left x.inn)
  pts : x.t.points = start - x.left
  dar : x.t.darts.hi = x.t.darts.lo ∧ (v : Int) ≤ x.t.darts.lo ∧ x.t.darts.lo ≤ 3 * v
  tri : x.t.tried.hi = x.t.tried.lo ∧ 0 ≤ x.t.tried.lo ∧ x.t.tried.lo ≤ x.t.darts.lo
  vis : x.t.visits = v
  legs : x.t.legs = 1
  won : x.t.won = if x.won = true then 1 else 0
  sco : x.scores.length = v
theorem TlX.start {start gout : Int} (h : 2 ≤ start) : TlX start gout 0 (exa0 start) := by
  refine ⟨.inr ⟨rfl, ?_, Int.le_refl _, fun _ => rfl⟩, by show (0 : Int) = start - start; omega, ⟨rfl, Int.le_refl _, Int.le_refl _⟩, ⟨rfl, Int.le_refl _, Int.le_refl _⟩, rfl, rfl, rfl, rfl⟩
  unfold leastS exa0
  dsimp only
  split <;> omega
theorem leastS_pos (gout : Int) : 1 ≤ leastS gout := by unfold leastS; split <;> decide
theorem rxU_left (x : Exa) (n : Int) (r : Rv) : (rxU x n r).left = if r.eff = 2 then x.left else r.left := by unfold rxU; split <;> rfl
theorem rxU_inn (x : Exa) (n : Int) (r : Rv) : (rxU x n r).inn = if r.eff = 2 then x.inn else r.inn := by unfold rxU; split <;> rfl
theorem rxU_won (x : Exa) (n : Int) (r : Rv) : (rxU x n r).won = (r.eff == 1) := by
  unfold rxU
  split
  · rename_i h; rw [h]; rfl
  · rfl
theorem rxU_t (x : Exa) (n : Int) (r : Rv) : (rxU x n r).t = sumS x.t ⟨n, n, r.tried, r.tried, true⟩ ⟨x.left - (rxU x n r).left, (rxU x n r).won⟩ := by
  unfold rxU
  split
  · dsimp only; rw [Int.sub_self]
  · rfl
theorem rxU_sc (x : Exa) (n : Int) (r : Rv) : (rxU x n r).scores = x.scores ++ [x.left - (rxU x n r).left] := by
  unfold rxU
  split
  · dsimp only; rw [Int.sub_self]
  · rfl
theorem TlX.next {start gin gout : Int} {bl : List Int} {v : Nat} {x : Exa} (h : TlX start gout v x) (hs : start ≤ 1001) (hv : v ≤ 1000) (hw : x.won = false) {bs : List Int} {r : Rv} (he : VsE start gin gout bl x bs r) : TlX start gout (v + 1) (rxU x bs.length r) ∧ (rxU x bs.length r).t.points = x.t.points + (x.left - (rxU x bs.length r).left) ∧ (rxU x bs.length r).t.darts.lo = x.t.darts.lo + bs.length ∧ (rxU x bs.length r).t.tried.lo = x.t.tried.lo + r.tried := by
  have hst : StOk start gout x.left x.inn := by
    rcases h.st with h1 | h1
    · rw [hw] at h1; cases h1.1
    · exact h1.2
  have hl := leastS_pos gout
  have hll := he.len
  have htt := he.tri
  have hd := h.dar
  have ht := h.tri
  have hp := h.pts
  have hxl : 1 ≤ x.left ∧ x.left ≤ start := ⟨by have := hst.1; omega, hst.2.1⟩
  have hnl : 0 ≤ (rxU x bs.length r).left ∧ (rxU x bs.length r).left ≤ start := by
    rw [rxU_left]
    rcases he.fin with h1 | h1 | h1
    · rw [if_neg (by omega), h1.2.1]; omega
    · rw [if_pos h1]; omega
    · rw [if_neg (by omega)]; have := h1.2.1; have := h1.2.2.1; omega
  have hst2 : ((rxU x bs.length r).won = true ∧ (rxU x bs.length r).left = 0) ∨ ((rxU x bs.length r).won = false ∧ StOk start gout (rxU x bs.length r).left (rxU x bs.length r).inn) := by
    rw [rxU_won, rxU_left, rxU_inn]
    rcases he.fin with h1 | h1 | h1
    · rw [h1.1]; exact .inl ⟨rfl, by rw [if_neg (by decide)]; exact h1.2.1⟩
    · rw [h1]; exact .inr ⟨rfl, by rw [if_pos rfl, if_pos rfl]; exact hst⟩
    · rw [h1.1]; exact .inr ⟨rfl, by rw [if_neg (by decide), if_neg (by decide)]; exact h1.2⟩
  have e1 : wrap64 (x.t.points + (x.left - (rxU x bs.length r).left)) = x.t.points + (x.left - (rxU x bs.length r).left) := wrap64_in' ⟨by omega, by omega⟩
  have e2 : wrap64 (x.t.darts.lo + bs.length) = x.t.darts.lo + bs.length := wrap64_in' ⟨by omega, by omega⟩
  have e3 : wrap64 (x.t.tried.lo + r.tried) = x.t.tried.lo + r.tried := wrap64_in' ⟨by omega, by omega⟩
  have e4 : wrap64 (x.t.visits + 1) = x.t.visits + 1 := wrap64_in' ⟨by have := h.vis; omega, by have := h.vis; omega⟩
  have hT := rxU_t x bs.length r
  have f1 : (rxU x bs.length r).t.points = x.t.points + (x.left - (rxU x bs.length r).left) := by rw [hT]; exact e1
  have f2 : (rxU x bs.length r).t.darts.lo = x.t.darts.lo + bs.length := by rw [hT]; exact e2
  have f3 : (rxU x bs.length r).t.tried.lo = x.t.tried.lo + r.tried := by rw [hT]; exact e3
  have f4 : (rxU x bs.length r).t.darts.hi = x.t.darts.lo + bs.length := by rw [hT]; show wrap64 (x.t.darts.hi + bs.length) = _; rw [hd.1]; exact e2
  have f5 : (rxU x bs.length r).t.tried.hi = x.t.tried.lo + r.tried := by rw [hT]; show wrap64 (x.t.tried.hi + r.tried) = _; rw [ht.1]; exact e3
  refine ⟨⟨hst2, by omega, by push_cast; omega, by omega, by rw [hT]; show wrap64 (x.t.visits + 1) = _; rw [e4, h.vis]; push_cast; rfl, by rw [hT]; exact h.legs, ?_, by rw [rxU_sc, List.length_append, h.sco]; rfl⟩, f1, f2, f3⟩
  rw [hT]
  show (if (rxU x bs.length r).won = true then wrap64 (x.t.won + 1) else x.t.won) = _
  have : x.t.won = 0 := by rw [h.won, hw]; rfl
  rw [this, show wrap64 (0 + 1) = 1 from wrap64_in' ⟨by omega, by omega⟩]
theorem VsE.rx {start gin gout : Int} {bl : List Int} {x : Exa} {bs : List Int} {r : Rv} (h : VsE start gin gout bl x bs r) (hw : x.won = false) : rxE gin gout bl x bs = 0 ∧ rxS gin gout bl x bs = rxU x bs.length r := by
  unfold rxE rxS
  rw [h.run, if_neg (by rw [hw]; decide)]
  exact ⟨rfl, rfl⟩
theorem rxG_snoc {gin gout : Int} {bl : List Int} : ∀ (vs : List (List Int)) (i : Nat) (e x : Exa) (vb : List Int), rxG gin gout bl vs i e = .inl x → rxE gin gout bl x vb = 0 → rxG gin gout bl (vs ++ [vb]) i e = .inl (rxS gin gout bl x vb)
  | [], i, e, x, vb, h, h0 => by
    injection h with h
    subst h
    show rxG gin gout bl [vb] i e = _
    unfold rxG
    rw [if_pos h0]
    rfl
  | ub :: vs, i, e, x, vb, h, h0 => by
    unfold rxG at h
    split at h
    · rename_i h1
      rw [List.cons_append, rxG, if_pos h1]
      exact rxG_snoc vs (i + 1) _ x vb h h0
    · cases h
end Go.Proofs.Ytmopadnkjlodnaa
