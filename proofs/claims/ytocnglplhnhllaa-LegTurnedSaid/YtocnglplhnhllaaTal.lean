/-
  A leg as it truly was: what the tale of a hand is, as data. No walk here.
-/
import Derived.Test.YtocnglplhnhllaaPla
namespace Go.Proofs.Ytocnglplhnhllaa
open Go.RowKit
theorem playL_snoc (r : Rul) (v : LV) : ∀ (l : List LV) (g : Gm) (i : Int) (g' : Gm), playL r g i l = (g', 0, 0) → (g'.step r v.player v.beds).2.2 = 0 → playL r g i (l ++ [v]) = ((g'.step r v.player v.beds).1, 0, 0)
  | [], g, i, g', h, hs => by
    simp only [playL, Prod.mk.injEq] at h
    obtain ⟨rfl, _⟩ := h
    show playL r g i [v] = _
    unfold playL
    rw [if_neg (by simp [hs])]
    rfl
  | u :: l, g, i, g', h, hs => by
    show playL r g i (u :: (l ++ [v])) = _
    unfold playL at h ⊢
    split at h
    · rename_i h1
      simp only [Prod.mk.injEq] at h
      exact absurd h.2.2 h1
    · rename_i h1
      rw [if_neg h1]
      exact playL_snoc r v l _ _ g' h hs
theorem thrW_snoc {gin gout : Int} : ∀ {bs : List Int} {i : Int} {x0 x : Thr} {b : Int}, thrW gin gout bs i x0 = .inl x → x.over = false → validB b = true → thrW gin gout (bs ++ [b]) i x0 = .inl (x.hit gin gout b)
  | [], i, x0, x, b, h, ho, hv => by
    simp only [thrW, Sum.inl.injEq] at h
    subst h
    simp [thrW, ho, hv]
  | c :: bs, i, x0, x, b, h, ho, hv => by
    unfold thrW at h
    split at h
    · cases h
    · rename_i h1
      split at h
      · cases h
      · rename_i h2
        rw [List.cons_append, thrW, if_neg h1, if_neg h2]
        exact thrW_snoc h ho hv
theorem thr_done {gin gout left : Int} {inn : Bool} {bs : List Int} {x : Thr} (h : thrW gin gout bs 0 ⟨left, 0, 0, inn, false, false⟩ = .inl x) (ho : x.over = true) :
    thr gin gout inn left bs = (if x.bust = true then ⟨left, 0, x.darts, inn, x.bust, x.won⟩ else ⟨x.left, left - x.left, x.darts, x.inn, x.bust, x.won⟩, -1, 0) := by
  unfold thr
  rw [h]
  simp only [thrE, Thr.end, ho]
  split
  · rename_i h1; cases h1
  · split <;> rfl
theorem validB_i64 {b : Int} (h : validB b = true) : I64 b := by
  unfold validB at h
  simp only [List.any_cons, List.any_nil, Bool.or_false, Bool.or_eq_true, beq_iff_eq, Bool.and_eq_true, ins_one] at h
  rcases h with (rfl | rfl | rfl) | ⟨h1, h2⟩
  · exact ⟨by decide, by decide⟩
  · exact ⟨by decide, by decide⟩
  · exact ⟨by decide, by decide⟩
  · have := Int.mul_tdiv_add_tmod b 100
    unfold fct at h1
    unfold nmb at h2
    exact ⟨by omega, by omega⟩
/-- A leg, and who has ended, in order, with how many darts. -/
structure TalI (r : Rul) (l : List LV) (g : Gm) (E A : List Int) : Prop where
  play : playL r (.begin r) 0 l = (g, 0, 0)
  ok : g.Ok r l.length
  done : g.done = ((l.length % r.counts.length : Nat) : Int)
  round : g.round = ((l.length / r.counts.length : Nat) : Int)
  next : g.over = false → g.next = (r.first + (l.length : Int)) % (r.counts.length : Int)
  shut : g.over = true → g.next = -1 ∧ g.winners = winS r.counts.length (if 0 < E.length then g.ended else leftF g.left g.left.length) ∧ (0 < E.length ∨ l.length % r.counts.length = 0)
  len : A.length = E.length
  ended : ∀ x c, g.ended x = some c ↔ ∃ i : Nat, E[i]? = some x ∧ A[i]? = some c
  fresh : g.over = false → ∀ x ∈ E, ∃ u : Nat, u < l.length % r.counts.length ∧ x = (r.first + ((l.length - l.length % r.counts.length + u : Nat) : Int)) % (r.counts.length : Int)
  nodup : E.Nodup
  bound : E.length ≤ l.length
  fits : ∀ v ∈ l, v.fits ∧ (1 ≤ v.beds.length ∧ v.beds.length ≤ 3) ∧ (∀ b ∈ v.beds, validB b = true)
theorem TalI.begin {r : Rul} (hr : r.ok = true) : TalI r [] (.begin r) [] [] := by
  have hl := Rul.ok_length hr
  have hf := Rul.ok_first hr
  refine ⟨rfl, Gm.Ok.begin hr, by simp [Gm.begin], by simp [Gm.begin], fun _ => ?_, fun h => (by cases h), rfl, fun x c => ?_, fun _ x hx => (by cases hx), List.nodup_nil, Nat.le_refl _, fun v hv => (by cases hv)⟩
  · simp only [Gm.begin, List.length_nil]
    rw [Int.emod_eq_of_lt] <;> omega
  · simp [Gm.begin]
theorem tal_fin (r : Rul) (g : Gm) : (g.fin r).left = g.left ∧ (g.fin r).darts = g.darts ∧ (g.fin r).inn = g.inn ∧ (g.fin r).round = g.round ∧ (g.fin r).ended = g.ended ∧ (g.fin r).done = g.done := by
  unfold Gm.fin
  split <;> exact ⟨rfl, rfl, rfl, rfl, rfl, rfl⟩
/-- Whether a leg is over behind a visit: m have ended, v visits were before. -/
def talO (r : Rul) (m v : Nat) : Bool :=
  (decide (0 < m) && (!r.equal || v % r.counts.length == r.counts.length - 1)) || (v % r.counts.length == r.counts.length - 1 && ((((v + 1) / r.counts.length : Nat) : Int) == r.rounds))
theorem hasF_of {n : Nat} {f : Int → Option Int} {E A : List Int} (hl : A.length = E.length) (h : ∀ x c, f x = some c ↔ ∃ i : Nat, E[i]? = some x ∧ A[i]? = some c) (hd : ∀ x c, f x = some c → 0 ≤ x ∧ x < n) : hasF n f = decide (0 < E.length) := by
  rw [Bool.eq_iff_iff, decide_eq_true_iff]
  unfold hasF
  rw [List.any_eq_true]
  constructor
  · rintro ⟨p, -, h1⟩
    obtain ⟨c, hc⟩ := Option.isSome_iff_exists.1 h1
    obtain ⟨i, hi, -⟩ := (h _ _).1 hc
    have := (List.getElem?_eq_some_iff.1 hi).1
    omega
  · intro hp
    have hc : f E[0] = some (A[0]'(by omega)) := (h _ _).2 ⟨0, by simp, by simp⟩
    have := hd _ _ hc
    refine ⟨E[0].toNat, List.mem_range.2 (by omega), ?_⟩
    rw [show ((E[0].toNat : Nat) : Int) = E[0] by omega, hc]
    rfl
theorem mod_succ (v n : Nat) (hn : 1 ≤ n) : (v % n = n - 1 → (v + 1) % n = 0 ∧ (v + 1) / n = v / n + 1) ∧ (v % n ≠ n - 1 → (v + 1) % n = v % n + 1 ∧ (v + 1) / n = v / n) := by
  have h1 := Nat.div_add_mod v n
  have h2 := Nat.mod_lt v (by omega : n > 0)
  constructor
  · intro h
    have e : v + 1 = n * (v / n + 1) := by rw [Nat.mul_add]; omega
    rw [e]
    exact ⟨Nat.mul_mod_right _ _, Nat.mul_div_cancel_left _ (by omega)⟩
  · intro h
    have e : v + 1 = (v % n + 1) + n * (v / n) := by omega
    constructor
    · rw [e, Nat.add_mul_mod_self_left, Nat.mod_eq_of_lt (by omega)]
    · rw [e, Nat.add_mul_div_left _ _ (by omega), Nat.div_eq_of_lt (by omega)]
      omega
theorem TalI.step {r : Rul} {l : List LV} {g : Gm} {E A : List Int} (hr : r.ok = true) (h : TalI r l g E A) (ho : g.over = false) {p : Nat} (hp : (p : Int) = (r.first + (l.length : Int)) % (r.counts.length : Int)) {bs : List Int} {x : Thr}
    (hx : g.thr r p bs = (x, -1, 0)) (hb : (1 ≤ bs.length ∧ bs.length ≤ 3) ∧ ∀ b ∈ bs, validB b = true) :
    TalI r (l ++ [⟨p, bs⟩]) ((g.put r p x).fin r) (if x.won = true then E ++ [(p : Int)] else E) (if x.won = true then A ++ [x.darts] else A)
      ∧ ((g.put r p x).fin r).over = talO r (if x.won = true then E ++ [(p : Int)] else E).length l.length := by
  have hl := Rul.ok_length hr
  have hf := Rul.ok_first hr
  have hpn : p < r.counts.length := by
    have := Int.emod_lt_of_pos (r.first + (l.length : Int)) (by omega : (0 : Int) < r.counts.length)
    omega
  have hnx : g.next = p := by rw [h.next ho, hp]
  have hc : chkS r.counts.length g.next g.over p = 0 := by
    unfold chkS
    rw [ho, hnx, if_neg (by simp), if_neg (by simp [ins_one]; omega), if_neg (by simp)]
  have hstep : g.step r p bs = ((g.put r p x).fin r, -1, 0) := by
    unfold Gm.step
    rw [if_neg (by simp [hc]), show ((p : Int)).toNat = p by simp, hx, if_neg (by simp)]
  have hms := mod_succ l.length r.counts.length hl.1
  have hml := Nat.mod_lt l.length (by omega : r.counts.length > 0)
  -- who has ended
  have hpE : (p : Int) ∉ E := by
    intro hm
    obtain ⟨u, hu, e⟩ := h.fresh ho _ hm
    rw [hp] at e
    have e2 : ((r.first + (l.length : Int)) - (r.first + ((l.length - l.length % r.counts.length + u : Nat) : Int))) % (r.counts.length : Int) = 0 := Int.emod_eq_emod_iff_emod_sub_eq_zero.1 e
    have hle := Nat.mod_le l.length r.counts.length
    rw [show (r.first + (l.length : Int)) - (r.first + ((l.length - l.length % r.counts.length + u : Nat) : Int)) = ((l.length % r.counts.length - u : Nat) : Int) by omega, Int.emod_eq_of_lt (by omega) (by omega)] at e2
    omega
  obtain ⟨E', hE'⟩ : ∃ E', (if x.won = true then E ++ [(p : Int)] else E) = E' := ⟨_, rfl⟩
  obtain ⟨A', hA'⟩ : ∃ A', (if x.won = true then A ++ [x.darts] else A) = A' := ⟨_, rfl⟩
  have hlen : A'.length = E'.length := by
    subst hE' hA'
    split <;> simp [h.len]
  have hen : ∀ y c, (g.put r p x).ended y = some c ↔ ∃ i : Nat, E'[i]? = some y ∧ A'[i]? = some c := by
    intro y c
    subst hE' hA'
    show wonF g.ended p x y = some c ↔ _
    unfold wonF
    by_cases hw : x.won = true
    · simp only [if_pos hw]
      unfold updF
      by_cases hy : y = (p : Int)
      · subst hy
        rw [if_pos rfl]
        constructor
        · intro e
          cases e
          exact ⟨E.length, by simp, by rw [← h.len]; simp⟩
        · rintro ⟨i, h1, h2⟩
          by_cases hi : i < E.length
          · rw [List.getElem?_append_left hi] at h1
            exact absurd (List.mem_of_getElem? h1) hpE
          · rw [List.getElem?_append_right (by omega)] at h1
            have hi0 : i - E.length < 1 := by simpa using (List.getElem?_eq_some_iff.1 h1).1
            obtain rfl : i = E.length := by omega
            rw [← h.len, List.getElem?_append_right (by omega)] at h2
            simpa using h2
      · rw [if_neg hy, h.ended]
        constructor
        · rintro ⟨i, h1, h2⟩
          have hi1 := (List.getElem?_eq_some_iff.1 h1).1
          have hi2 := (List.getElem?_eq_some_iff.1 h2).1
          exact ⟨i, by rw [List.getElem?_append_left hi1]; exact h1, by rw [List.getElem?_append_left hi2]; exact h2⟩
        · rintro ⟨i, h1, h2⟩
          by_cases hi : i < E.length
          · rw [List.getElem?_append_left hi] at h1
            rw [List.getElem?_append_left (by rw [h.len]; exact hi)] at h2
            exact ⟨i, h1, h2⟩
          · rw [List.getElem?_append_right (by omega)] at h1
            have hi0 : i - E.length < 1 := by simpa using (List.getElem?_eq_some_iff.1 h1).1
            rw [show i - E.length = 0 by omega] at h1
            simp only [List.getElem?_cons_zero, Option.some.injEq] at h1
            exact absurd h1.symm hy
    · simp only [if_neg hw]
      exact h.ended y c
  have hnd : E'.Nodup := by
    subst hE'
    split
    · exact List.nodup_append.2 ⟨h.nodup, by simp, fun a ha b hb e => by
        obtain rfl := List.mem_singleton.1 hb
        exact hpE (e ▸ ha)⟩
    · exact h.nodup
  have hbd : E'.length ≤ l.length + 1 := by
    have := h.bound
    subst hE'
    split
    · simp; omega
    · omega
  have hmem : ∀ y ∈ E', y ∈ E ∨ y = (p : Int) := by
    intro y hy
    subst hE'
    split at hy
    · rcases List.mem_append.1 hy with hy | hy
      · exact .inl hy
      · exact .inr (List.mem_singleton.1 hy)
    · exact .inl hy
  have hpok : (g.put r p x).Ok r (l.length + 1) := by
    have := h.ok.step (p : Int) bs
    rw [hstep] at this
    obtain ⟨f1, f2, f3, f4, f5, f6⟩ := tal_fin r (g.put r p x)
    exact ⟨by rw [← f1]; exact this.left, by rw [← f2]; exact this.darts, by rw [← f3]; exact this.inn, by rw [← f1]; exact this.lefts, by rw [← f2]; exact this.dartss, by rw [← f4]; exact this.round, by rw [← f6]; exact this.done, fun _ => by show g.winners = []; exact h.ok.none ho, by rw [← f5]; exact this.ended⟩
  have hh : hasF r.counts.length (g.put r p x).ended = decide (0 < E'.length) := hasF_of hlen hen fun y c hc => (hpok.ended y c hc).1
  have hdone : (g.put r p x).done = (((l.length + 1) % r.counts.length : Nat) : Int) := by
    simp only [Gm.put, h.done]
    by_cases hm : l.length % r.counts.length = r.counts.length - 1
    · rw [if_pos (by omega), (hms.1 hm).1]; rfl
    · rw [if_neg (by omega), (hms.2 hm).1]; rfl
  have hround : (g.put r p x).round = (((l.length + 1) / r.counts.length : Nat) : Int) := by
    simp only [Gm.put, h.done, h.round]
    by_cases hm : l.length % r.counts.length = r.counts.length - 1
    · rw [if_pos (by omega), (hms.1 hm).2]; rfl
    · rw [if_neg (by omega), (hms.2 hm).2]
  have hz : ((g.put r p x).done == 0) = (l.length % r.counts.length == r.counts.length - 1) := by
    rw [hdone, Bool.eq_iff_iff, beq_iff_eq, beq_iff_eq]
    constructor
    · intro e
      by_cases hm : l.length % r.counts.length = r.counts.length - 1
      · exact hm
      · have := (hms.2 hm).1; omega
    · intro hm
      rw [(hms.1 hm).1]; rfl
  have hov : ((g.put r p x).fin r).over = talO r E'.length l.length ∧ (((g.put r p x).fin r).over = false → (g.put r p x).fin r = g.put r p x) ∧
      (((g.put r p x).fin r).over = true → ((g.put r p x).fin r).next = -1 ∧ ((g.put r p x).fin r).winners = winS r.counts.length (if 0 < E'.length then (g.put r p x).ended else leftF (g.put r p x).left (g.put r p x).left.length) ∧ (0 < E'.length ∨ (l.length + 1) % r.counts.length = 0)) := by
    unfold Gm.fin talO endS
    rw [hh, hz, hround]
    cases hq1 : decide (0 < E'.length)
    · have hq1' : ¬ 0 < E'.length := by simpa using hq1
      rw [if_neg (by simp)]
      cases hq2 : (l.length % r.counts.length == r.counts.length - 1)
      · rw [if_neg (by simp)]
        have : (g.put r p x).over = false := ho
        refine ⟨by simp [this], fun _ => rfl, fun e => ?_⟩
        simp only at e
        rw [this] at e; cases e
      · have hq2' : l.length % r.counts.length = r.counts.length - 1 := by simpa using hq2
        cases hq3 : ((((l.length + 1) / r.counts.length : Nat) : Int) == r.rounds)
        · rw [if_neg (by simp)]
          have : (g.put r p x).over = false := ho
          refine ⟨by simp [this], fun _ => rfl, fun e => ?_⟩
          simp only at e
          rw [this] at e; cases e
        · rw [if_pos (by simp)]
          refine ⟨by simp, fun e => (by cases e), fun _ => ⟨rfl, ?_, .inr (hms.1 hq2').1⟩⟩
          rw [if_neg hq1']
    · have hq1' : 0 < E'.length := by simpa using hq1
      cases hq2 : (l.length % r.counts.length == r.counts.length - 1)
      · cases hq3 : r.equal
        · rw [if_pos (by simp)]
          refine ⟨by simp, fun e => (by cases e), fun _ => ⟨rfl, ?_, .inl hq1'⟩⟩
          rw [if_pos hq1']
        · rw [if_neg (by simp), if_neg (by simp)]
          have : (g.put r p x).over = false := ho
          refine ⟨by simp [this], fun _ => rfl, fun e => ?_⟩
          simp only at e
          rw [this] at e; cases e
      · rw [if_pos (by simp)]
        refine ⟨by simp, fun e => (by cases e), fun _ => ⟨rfl, ?_, .inl hq1'⟩⟩
        rw [if_pos hq1']
  obtain ⟨f1, f2, f3, f4, f5, f6⟩ := tal_fin r (g.put r p x)
  rw [hE', hA']
  refine ⟨⟨?_, ?_, ?_, ?_, fun ho' => ?_, fun ho' => ?_, hlen, ?_, fun ho' y hy => ?_, hnd, by simpa using hbd, fun v hv => ?_⟩, hov.1⟩
  · have := playL_snoc r ⟨p, bs⟩ l _ _ _ h.play (by simp only; rw [hstep])
    simp only at this
    rw [hstep] at this
    exact this
  · have := h.ok.step (p : Int) bs
    rw [hstep] at this
    simpa using this
  · rw [f6, hdone]; simp
  · rw [f4, hround]; simp
  · rw [hov.2.1 ho']
    show ((p : Int) + 1) % (r.counts.length : Int) = _
    rw [hp, List.length_append, Int.emod_add_emod]
    congr 1
    simp
    omega
  · rw [f5, f1, List.length_append]
    exact hov.2.2 ho'
  · rw [f5]; exact hen
  · -- not over: nobody has ended at a round's end
    have ht : talO r E'.length l.length = false := by rw [← hov.1]; exact ho'
    have hE0 : 0 < E'.length := List.length_pos_of_mem hy
    unfold talO at ht
    have hnm : l.length % r.counts.length ≠ r.counts.length - 1 := by
      intro e
      simp [hE0, e] at ht
    have hm2 := (hms.2 hnm).1
    have hle := Nat.mod_le l.length r.counts.length
    rw [List.length_append, List.length_singleton, hm2]
    rcases hmem y hy with hy | rfl
    · obtain ⟨u, hu, e⟩ := h.fresh ho y hy
      refine ⟨u, by omega, ?_⟩
      rw [e]
      congr 3
      omega
    · refine ⟨l.length % r.counts.length, by omega, ?_⟩
      rw [hp]
      congr 3
      omega
  · rcases List.mem_append.1 hv with hv | hv
    · exact h.fits v hv
    · obtain rfl := List.mem_singleton.1 hv
      refine ⟨⟨?_, fun b hb' => ?_, by simp only; omega⟩, hb.1, hb.2⟩
      · simp only [I64]; omega
      · exact validB_i64 (hb.2 b hb')
end Go.Proofs.Ytocnglplhnhllaa
