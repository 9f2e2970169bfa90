/-
  Plain law of MeanExact: a visit dart by dart, as the reference goes, is what the program counts. No program here.
-/
import Derived.Test.YtmopadnkjlodnaaMtd
namespace Go.Proofs.Ytmopadnkjlodnaa
open Go.RowKit
/-- A visit while it is thrown: what is left, whether the player is in, what the last dart did, and how many were at a finish. -/
structure Rv where
  left : Int
  inn : Bool
  eff : Int
  tried : Int
section
variable (start gin gout : Int) (beds : List Int)
def rvN (r : Rv) (b : Int) : Rv := ⟨(hitS gin gout r.left r.inn b).1, (hitS gin gout r.left r.inn b).2.1, (hitS gin gout r.left r.inn b).2.2, r.tried + finI gin gout beds r.left r.inn⟩
/-- The error of a dart. -/
def rvX (r : Rv) (k : Nat) (b : Int) : Int := if k = 3 ∨ r.eff ≠ 0 then 32 else if (b != 0 && !beds.any (b == ·)) = true then 7 else 0
def rvF : List Int → Nat → Rv → Rv ⊕ Int
  | [], _, r => .inl r
  | b :: l, k, r => if rvX beds r k b = 0 then rvF l (k + 1) (rvN gin gout beds r b) else .inr (rvX beds r k b)
/-- What a visit comes to, or its error. -/
def rvE (e : Exa) (vb : List Int) : Rv ⊕ Int := match rvF gin gout beds vb 0 ⟨e.left, e.inn, 0, 0⟩ with
  | .inr x => .inr x
  | .inl r => if vb.length < 3 ∧ r.eff = 0 then .inr 31 else .inl r
def rxE (e : Exa) (vb : List Int) : Int := if e.won = true then 33 else match rvE gin gout beds e vb with
  | .inr x => x
  | .inl _ => 0
/-- The leg behind a visit. -/
def rxU (e : Exa) (n : Int) (r : Rv) : Exa :=
  if r.eff = 2 then ⟨sumS e.t ⟨n, n, r.tried, r.tried, true⟩ ⟨0, false⟩, e.left, e.inn, e.scores ++ [0], false⟩
  else ⟨sumS e.t ⟨n, n, r.tried, r.tried, true⟩ ⟨e.left - r.left, r.eff == 1⟩, r.left, r.inn, e.scores ++ [e.left - r.left], r.eff == 1⟩
def rxS (e : Exa) (vb : List Int) : Exa := match rvE gin gout beds e vb with
  | .inr _ => e
  | .inl r => rxU e vb.length r
def rxG : List (List Int) → Nat → Exa → Exa ⊕ (Int × Int)
  | [], _, e => .inl e
  | vb :: l, i, e => if rxE gin gout beds e vb = 0 then rxG l (i + 1) (rxS gin gout beds e vb) else .inr (i, rxE gin gout beds e vb)
/-- What the reference says of a leg that is told dart by dart. -/
def rxF (vs : List (List Int)) : Exa ⊕ (Int × Int) := if lawsB start gin gout beds = false then .inr (0, 2) else if 100 < vs.length then .inr (0, 5) else rxG gin gout beds vs 0 (exa0 start)
end
theorem opn4_opn {g b : Int} (h : 1 ≤ fct b ∧ fct b ≤ 4) : opn4 g b = opn g b := by
  unfold opn4 opn
  split
  · rw [Bool.eq_iff_iff, ins_one, beq_iff_eq]; omega
  · split
    · rw [Bool.eq_iff_iff, ins_one, decide_eq_true_iff]; omega
    · rw [Bool.eq_iff_iff, ins_one, decide_eq_true_iff]; omega
theorem isBed_valid {b : Int} (h : isBedB b = true) : validB b = true ∧ (b == 0) = false ∧ 1 ≤ fct b ∧ fct b ≤ 4 := by
  unfold isBedB at h
  unfold validB
  simp only [Bool.or_eq_true, beq_iff_eq, Bool.and_eq_true] at h
  rcases h with (rfl | rfl) | ⟨h1, h2⟩
  · decide
  · decide
  · have h3 := ins_one.1 h1
    refine ⟨by simp [h1, h2], ?_, h3⟩
    rw [beq_eq_false_iff_ne]
    rintro rfl
    have : fct 0 = 0 := by decide
    omega
theorem beds_valid {beds : List Int} (hB : bedsB beds = true) {b : Int} (h : b = 0 ∨ b ∈ beds) : validB b = true ∧ ((b == 0) = true ∨ 1 ≤ fct b ∧ fct b ≤ 4) := by
  rcases h with rfl | h
  · exact ⟨by decide, .inl rfl⟩
  · obtain ⟨i, hi, rfl⟩ := List.mem_iff_getElem.1 h
    have := isBed_valid ((bedsB_iff beds).1 hB i hi hi).1
    exact ⟨this.1, .inr this.2.2⟩
def thrO (r : Rv) (k : Int) : Thr := ⟨r.left, 0, k, r.inn, r.eff == 2, r.eff == 1⟩
theorem hit_step {gin gout : Int} {beds : List Int} {r : Rv} {k b : Int} (hb : (b == 0) = true ∨ 1 ≤ fct b ∧ fct b ≤ 4) (he : r.eff = 0) : (thrO r k).hit gin gout b = thrO (rvN gin gout beds r b) (k + 1) := by
  obtain ⟨left, inn, eff, tried⟩ := r
  simp only at he
  subst he
  unfold thrO Thr.hit rvN hitS
  dsimp only
  rcases hb with hb | hb
  · rw [if_pos (.inl hb), if_pos (.inl hb)]
  · rw [opn4_opn hb, opn4_opn hb]
    by_cases hs : (b == 0) = true ∨ inn = false ∧ opn gin b = false
    · rw [if_pos hs, if_pos hs]
    rw [if_neg hs, if_neg hs]
    by_cases h0 : left - wrt b = 0
    · cases ho : opn gout b
      · rw [if_neg (show ¬ (left - wrt b == 0 && false) = true by simp), if_pos (show (decide (left - wrt b < 2) && (left - wrt b != 1 || gout != 0)) = true by rw [h0]; rfl), if_neg (show ¬ (left - wrt b = 0 ∧ false = true) by simp),
          if_neg (show ¬ (1 < left - wrt b ∨ left - wrt b = 1 ∧ (gout == 0) = true) by omega)]
        rfl
      · rw [if_pos (show (left - wrt b == 0 && true) = true by rw [h0]; rfl), if_pos (show left - wrt b = 0 ∧ true = true from ⟨h0, rfl⟩), h0]
        rfl
    · rw [if_neg (show ¬ (left - wrt b == 0 && opn gout b) = true by simp [h0]), if_neg (show ¬ (left - wrt b = 0 ∧ opn gout b = true) from fun h => h0 h.1)]
      by_cases h1 : 1 < left - wrt b ∨ left - wrt b = 1 ∧ (gout == 0) = true
      · rw [if_pos h1, if_neg (show ¬ (decide (left - wrt b < 2) && (left - wrt b != 1 || gout != 0)) = true by
          simp only [Bool.and_eq_true, decide_eq_true_iff, Bool.or_eq_true, bne_iff_ne, ne_eq]
          rintro ⟨h2, h3⟩
          rcases h1 with h1 | ⟨h1, h4⟩
          · omega
          · rcases h3 with h3 | h3
            · exact h3 h1
            · exact h3 (by simpa using h4))]
        rfl
      · rw [if_neg h1, if_pos (show (decide (left - wrt b < 2) && (left - wrt b != 1 || gout != 0)) = true by
          simp only [Bool.and_eq_true, decide_eq_true_iff, Bool.or_eq_true, bne_iff_ne, ne_eq]
          refine ⟨by omega, ?_⟩
          by_cases h2 : left - wrt b = 1
          · exact .inr fun h3 => h1 (.inr ⟨h2, by simpa using h3⟩)
          · exact .inl h2)]
        rfl
theorem hitS_eff (gin gout left : Int) (inn : Bool) (x : Int) : (hitS gin gout left inn x).2.2 = 0 ∨ (hitS gin gout left inn x).2.2 = 1 ∨ (hitS gin gout left inn x).2.2 = 2 := by
  unfold hitS
  split
  · exact .inl rfl
  · split
    · exact .inr (.inl rfl)
    · split
      · exact .inl rfl
      · exact .inr (.inr rfl)
def EffOk (r : Rv) : Prop := r.eff = 0 ∨ r.eff = 1 ∨ r.eff = 2
theorem rvX_ok {beds : List Int} {r : Rv} {k : Nat} {b : Int} (h : rvX beds r k b = 0) : k ≠ 3 ∧ r.eff = 0 ∧ (b = 0 ∨ b ∈ beds) := by
  unfold rvX at h
  split at h
  · simp at h
  · rename_i h1
    refine ⟨fun h2 => h1 (.inl h2), by by_cases h2 : r.eff = 0; exact h2; exact absurd (.inr h2) h1, ?_⟩
    split at h
    · simp at h
    · rename_i h2
      by_cases h0 : b = 0
      · exact .inl h0
      · right
        cases hc : beds.any (b == ·)
        · rw [hc] at h2; simp [h0] at h2
        · obtain ⟨x, hx, he⟩ := List.any_eq_true.1 hc
          have : b = x := by simpa using he
          rw [this]; exact hx
theorem over_thrO (r : Rv) (k : Nat) (h : EffOk r) : (thrO r k).over = true ↔ k = 3 ∨ r.eff ≠ 0 := by
  unfold Thr.over thrO
  simp only [Bool.or_eq_true, beq_iff_eq]
  rcases h with h | h | h <;> rw [h] <;> omega
theorem rvF_spec {gin gout : Int} {beds : List Int} (hB : bedsB beds = true) : ∀ (l : List Int) (k : Nat) (r r' : Rv), EffOk r → k ≤ 3 → rvF gin gout beds l k r = .inl r' →
    thrW gin gout l k (thrO r k) = .inl (thrO r' ((k + l.length : Nat) : Int)) ∧ EffOk r' ∧ k + l.length ≤ 3 ∧ triA gin gout beds ⟨r.left, r.inn⟩ l r.tried = r'.tried
  | [], k, r, r', he, hk, h => by
    injection h with h
    subst h
    exact ⟨rfl, he, hk, rfl⟩
  | b :: l, k, r, r', he, hk, h => by
    unfold rvF at h
    by_cases hx : rvX beds r k b = 0
    · rw [if_pos hx] at h
      obtain ⟨h1, h2, h3⟩ := rvX_ok hx
      have hv := beds_valid hB h3
      obtain ⟨i1, i2, i3, i4⟩ := rvF_spec hB l (k + 1) (rvN gin gout beds r b) r' (hitS_eff _ _ _ _ _) (by omega) h
      refine ⟨?_, i2, by simp only [List.length_cons]; omega, i4⟩
      unfold thrW
      rw [if_neg (fun h4 => by rcases (over_thrO r k he).1 h4 with h5 | h5; exact h1 h5; exact h5 h2), if_neg (by rw [hv.1]; decide), hit_step (beds := beds) hv.2 h2]
      rw [show ((k : Int) + 1) = ((k + 1 : Nat) : Int) from by omega, i1]
      simp only [List.length_cons]
      rw [show k + 1 + l.length = k + (l.length + 1) from by omega]
    · rw [if_neg hx] at h; cases h
theorem rvF_append {gin gout : Int} {beds : List Int} : ∀ (p s : List Int) (k : Nat) (r r' : Rv), rvF gin gout beds p k r = .inl r' → rvF gin gout beds (p ++ s) k r = rvF gin gout beds s (k + p.length) r'
  | [], s, k, r, r', h => by injection h with h; subst h; rfl
  | b :: p, s, k, r, r', h => by
    unfold rvF at h
    by_cases hx : rvX beds r k b = 0
    · rw [if_pos hx] at h
      rw [List.cons_append, rvF, if_pos hx, rvF_append p s (k + 1) _ r' h, List.length_cons]
      rw [show k + 1 + p.length = k + (p.length + 1) from by omega]
    · rw [if_neg hx] at h; cases h
/-- A stand from which a visit can be thrown. -/
def StOk (start gout left : Int) (inn : Bool) : Prop := leastS gout ≤ left ∧ left ≤ start ∧ (inn = false → left = start)
theorem visS_thr {start gin gout left : Int} {inn : Bool} (hc : cntB start gin gout = true) (h : StOk start gout left inn) (vb : List Int) : visS start gin gout inn left vb = ((thr gin gout inn left vb).1, (thr gin gout inn left vb).2.2) := by
  unfold visS
  rw [if_neg (by rw [hc]; decide), if_neg (by rw [ins_one.2 ⟨h.1, h.2.1⟩]; decide), if_neg (by rintro ⟨h1, h2⟩; simp [h.2.2 h1] at h2)]
theorem thr_pre {gin gout : Int} {beds : List Int} (hB : bedsB beds = true) {l : List Int} {left : Int} {inn : Bool} {r : Rv} (h : rvF gin gout beds l 0 ⟨left, inn, 0, 0⟩ = .inl r) : thr gin gout inn left l = (thrO r l.length).end inn left := by
  unfold thr
  have := (rvF_spec hB l 0 _ r (.inl rfl) (by omega) h).1
  rw [show ((0 : Nat) : Int) = 0 from rfl, Nat.zero_add] at this
  rw [show (⟨left, 0, 0, inn, false, false⟩ : Thr) = thrO ⟨left, inn, 0, 0⟩ 0 from rfl, this]
  rfl
theorem end_err {r : Rv} {k : Nat} (he : EffOk r) (inn : Bool) (left : Int) : ((thrO r k).end inn left).2.2 = if k = 3 ∨ r.eff ≠ 0 then 0 else 31 := by
  unfold Thr.end
  by_cases h : k = 3 ∨ r.eff ≠ 0
  · rw [if_pos h, if_neg (by rw [(over_thrO r k he).2 h]; decide)]
    split <;> rfl
  · rw [if_neg h, if_pos (by rw [Bool.eq_false_iff]; exact fun h2 => h ((over_thrO r k he).1 h2))]
theorem chk_go {start gin gout left : Int} {beds : List Int} {inn : Bool} (hc : cntB start gin gout = true) (hB : bedsB beds = true) (hs : StOk start gout left inn) (vb : List Int) :
    ∀ (suf pre : List Int) (r : Rv), vb = pre ++ suf → rvF gin gout beds pre 0 ⟨left, inn, 0, 0⟩ = .inl r → (List.range pre.length).findSome? (chkE start gin gout beds inn left vb) = none →
      chkS start gin gout beds inn left vb = match rvF gin gout beds suf pre.length r with
        | .inr x => x
        | .inl r => if vb.length < 3 ∧ r.eff = 0 then 31 else 0
  | [], pre, r, hv, hr, hf => by
    rw [List.append_nil] at hv
    subst hv
    obtain ⟨-, h2, h3, -⟩ := rvF_spec hB vb 0 _ r (.inl rfl) (by omega) hr
    unfold chkS
    rw [hf]
    simp only [rvF]
    rw [visS_thr hc hs, thr_pre hB hr]
    show ((thrO r vb.length).end inn left).2.2 = _
    rw [end_err h2]
    by_cases h : vb.length = 3 ∨ r.eff ≠ 0
    · rw [if_pos h, if_neg (by omega)]
    · rw [if_neg h, if_pos (by omega)]
  | b :: suf, pre, r, hv, hr, hf => by
    obtain ⟨-, h2, h3, -⟩ := rvF_spec hB pre 0 _ r (.inl rfl) (by omega) hr
    have hlt : pre.length < vb.length := by rw [hv]; simp
    have htk : vb.take pre.length = pre := by rw [hv]; simp
    have hgd : vb.getD pre.length 0 = b := by rw [hv]; simp [List.getD_eq_getElem?_getD]
    have hck : chkE start gin gout beds inn left vb pre.length = if rvX beds r pre.length b = 0 then none else some (rvX beds r pre.length b) := by
      unfold chkE rvX
      rw [htk, hgd, visS_thr hc hs, thr_pre hB hr]
      show (if ((thrO r pre.length).end inn left).2.2 = 0 ∨ ((thrO r pre.length).end inn left).2.2 = 32 then _ else _) = _
      rw [end_err h2]
      by_cases h : pre.length = 3 ∨ r.eff ≠ 0
      · simp [h]
      · simp only [if_neg h]
        rw [if_neg (by decide)]
        by_cases h4 : (b != 0 && !beds.any (b == ·)) = true
        · simp [h4]
        · rw [if_neg h4, if_neg h4, if_pos rfl]
    by_cases hx : rvX beds r pre.length b = 0
    · rw [if_pos hx] at hck
      have := chk_go hc hB hs vb suf (pre ++ [b]) (rvN gin gout beds r b) (by rw [hv]; simp) (by rw [rvF_append _ _ _ _ _ hr, Nat.zero_add, rvF, if_pos hx]; rfl) (by
        rw [List.length_append, List.length_singleton, List.range_succ, List.findSome?_append, hf]; simp [hck])
      rw [this, rvF, if_pos hx, List.length_append, List.length_singleton]
    · rw [if_neg hx] at hck
      unfold chkS
      rw [find_range hlt hf hck, rvF, if_neg hx]
theorem laws_cnt {start gin gout : Int} {beds : List Int} (h : lawsB start gin gout beds = true) : cntB start gin gout = true ∧ bedsB beds = true := by
  unfold lawsB at h
  simp only [Bool.and_eq_true] at h
  refine ⟨?_, h.1⟩
  unfold cntB
  simp only [Bool.and_eq_true]
  have h2 := h.2.1.2
  simp only [ins, out1, List.any_cons, List.any_nil, Bool.or_false, Bool.not_or, Bool.and_eq_true, Bool.not_eq_true', decide_eq_false_iff_not] at h2
  exact ⟨h.2.1.1, ins_one.2 (by omega), ins_one.2 (by omega)⟩
theorem rvF_left {gin gout : Int} {beds : List Int} (hB : bedsB beds = true) : ∀ (l : List Int) (k : Nat) (r r' : Rv) (start : Int), StOk start gout r.left r.inn → rvF gin gout beds l k r = .inl r' → r'.eff = 1 ∨ StOk start gout r'.left r'.inn
  | [], k, r, r', start, hs, h => by injection h with h; subst h; exact .inr hs
  | b :: l, k, r, r', start, hs, h => by
    unfold rvF at h
    by_cases hx : rvX beds r k b = 0
    · rw [if_pos hx] at h
      obtain ⟨-, h2, h3⟩ := rvX_ok hx
      by_cases he : (rvN gin gout beds r b).eff = 0 ∨ (rvN gin gout beds r b).eff = 2
      · refine rvF_left hB l (k + 1) _ r' start ?_ h
        have hw := (beds_bounds hB h3).2.1
        unfold rvN hitS at he ⊢
        dsimp only at he ⊢
        split
        · exact hs
        · rename_i h4
          rw [if_neg h4] at he
          split
          · rename_i h5; rw [if_pos h5] at he; simp at he
          · split
            · rename_i h6
              refine ⟨?_, by dsimp only; have := hs.2.1; omega, fun h => by cases h⟩
              dsimp only
              unfold leastS
              rcases h6 with h6 | ⟨h6, h7⟩
              · split <;> omega
              · rw [if_pos (by simpa using h7)]; omega
            · exact hs
      · have : (rvN gin gout beds r b).eff = 1 := by
          rcases hitS_eff gin gout r.left r.inn b with h5 | h5 | h5
          · exact absurd (.inl h5) he
          · exact h5
          · exact absurd (.inr h5) he
        cases l with
        | nil => injection h with h; subst h; exact .inl this
        | cons c l =>
          unfold rvF at h
          rw [if_neg] at h
          · cases h
          · intro h8
            have := (rvX_ok h8).2.1
            omega
    · rw [if_neg hx] at h; cases h
def ExOk (start gout : Int) (e : Exa) : Prop := e.won = true ∨ StOk start gout e.left e.inn
theorem exa_step {start gin gout : Int} {beds : List Int} (hL : lawsB start gin gout beds = true) (e : Exa) (he : ExOk start gout e) (vb : List Int) : exaE start gin gout beds e vb = rxE gin gout beds e vb ∧ (exaE start gin gout beds e vb = 0 → exaS start gin gout beds e vb = rxS gin gout beds e vb ∧ ExOk start gout (rxS gin gout beds e vb)) := by
  obtain ⟨hc, hB⟩ := laws_cnt hL
  unfold exaE rxE
  cases hw : e.won
  case true => exact ⟨rfl, fun h => by simp at h⟩
  have hs : StOk start gout e.left e.inn := by rcases he with h | h; rw [hw] at h; cases h; exact h
  have h1 := chk_go hc hB hs vb vb [] ⟨e.left, e.inn, 0, 0⟩ rfl rfl rfl
  rw [if_neg (by decide), if_neg (by decide), h1]
  unfold rxS rvE
  rw [List.length_nil]
  cases hr : rvF gin gout beds vb 0 ⟨e.left, e.inn, 0, 0⟩ with
  | inr x =>
    refine ⟨rfl, fun h => ?_⟩
    dsimp only at h
    exact absurd h (by
      intro h0
      subst h0
      have : ∀ (l : List Int) (k : Nat) (r : Rv), rvF gin gout beds l k r ≠ .inr 0 := by
        intro l
        induction l with
        | nil => intro k r h; cases h
        | cons b l ih =>
          intro k r h
          unfold rvF at h
          split at h
          · exact ih _ _ h
          · rename_i h2; injection h with h; exact h2 h
      exact this _ _ _ hr)
  | inl r =>
    dsimp only
    by_cases h3 : vb.length < 3 ∧ r.eff = 0
    · rw [if_pos h3, if_pos h3]; exact ⟨rfl, fun h => by cases h⟩
    · rw [if_neg h3, if_neg h3]
      refine ⟨rfl, fun _ => ?_⟩
      obtain ⟨-, h4, h5, h6⟩ := rvF_spec hB vb 0 _ r (.inl rfl) (by omega) hr
      rw [Nat.zero_add] at h5
      have hov : (thrO r vb.length).over = true := (over_thrO r vb.length h4).2 (by omega)
      have hvis : (visS start gin gout e.inn e.left vb).1 = if r.eff = 2 then ⟨e.left, 0, vb.length, e.inn, true, false⟩ else ⟨r.left, e.left - r.left, vb.length, r.inn, false, r.eff == 1⟩ := by
        rw [visS_thr hc hs, thr_pre hB hr]
        unfold Thr.end
        rw [if_neg (by rw [hov]; decide)]
        unfold thrO
        dsimp only
        rcases h4 with h | h | h <;> rw [h] <;> rfl
      have hE : exaS start gin gout beds e vb = rxU e vb.length r := by
        unfold exaS rxU
        rw [hvis, h6]
        by_cases h2 : r.eff = 2
        · simp only [if_pos h2]
        · simp only [if_neg h2]
      refine ⟨hE, ?_⟩
      unfold rxU ExOk
      by_cases h2 : r.eff = 2
      · simp only [if_pos h2]; exact .inr hs
      · simp only [if_neg h2]
        rcases rvF_left hB vb 0 _ r start hs hr with h | h
        · left; rw [h]; rfl
        · exact .inr h
theorem exa_go {start gin gout : Int} {beds : List Int} (hL : lawsB start gin gout beds = true) : ∀ (vs : List (List Int)) (i : Nat) (e : Exa), ExOk start gout e → exaG start gin gout beds vs i e = rxG gin gout beds vs i e
  | [], _, _, _ => rfl
  | vb :: vs, i, e, he => by
    obtain ⟨h1, h2⟩ := exa_step hL e he vb
    unfold exaG rxG
    rw [← h1]
    by_cases h0 : exaE start gin gout beds e vb = 0
    · rw [if_pos h0, if_pos h0, (h2 h0).1, exa_go hL vs (i + 1) _ (h2 h0).2]
    · rw [if_neg h0, if_neg h0]
/-- The law: what the program counts is what the reference says. -/
theorem exa_ref (start gin gout : Int) (beds : List Int) (vs : List (List Int)) : exaF start gin gout beds vs = rxF start gin gout beds vs := by
  unfold exaF rxF
  by_cases hL : lawsB start gin gout beds = false
  · rw [if_pos hL, if_pos hL]
  · rw [if_neg hL, if_neg hL]
    split
    · rfl
    · have hL' : lawsB start gin gout beds = true := by simpa using hL
      refine exa_go hL' vs 0 _ (.inr ⟨?_, Int.le_refl _, fun _ => rfl⟩)
      have := cntB_start (laws_cnt hL').1
      unfold leastS exa0
      dsimp only
      split <;> omega
end Go.Proofs.Ytmopadnkjlodnaa
