/-
  Plain: a board whose ring of numbers is turned.
-/
import Derived.Test.YtlkbbcfbnbnagaaMdp
namespace Go.Proofs.Ytlkbbcfbnbnagaa
def tbB (b : Brd) (k : Nat) : Brd := ⟨b.eye, b.bull, b.rings, b.lines, turnL b.nums k, b.wire⟩
theorem turnL_get (xs : List Int) (k s : Nat) (hk : k < xs.length) (hs : s < xs.length) : (turnL xs k)[s]? = xs[(s + xs.length - k) % xs.length]? := by
  unfold turnL
  rcases Nat.lt_or_ge s k with h | h
  · rw [List.getElem?_append_left (by rw [List.length_drop]; omega), List.getElem?_drop, Nat.mod_eq_of_lt (by omega)]
    congr 1; omega
  · rw [List.getElem?_append_right (by rw [List.length_drop]; omega), List.length_drop, List.getElem?_take_of_lt (by omega)]
    have e : (s + xs.length - k) % xs.length = s - k := by
      rw [show s + xs.length - k = (s - k) + xs.length by omega, Nat.add_mod_right, Nat.mod_eq_of_lt (by omega)]
    rw [e]
    congr 1; omega
theorem turnL_perm (xs : List Int) (k : Nat) : (turnL xs k).Perm xs := by
  unfold turnL
  exact List.perm_append_comm.trans (by rw [List.take_append_drop])
theorem tb_err {b : Brd} {k : Nat} (hk : k ≤ b.nums.length) (h : errB b = 0) : errB (tbB b k) = 0 := by
  have hlen : (turnL b.nums k).length = b.nums.length := turnL_len _ _ hk
  unfold errB at h ⊢
  have hl : longB (tbB b k) = longB b := by unfold longB tbB; simp only [hlen]
  have hr : ringsB (tbB b k) = ringsB b := rfl
  have hn : numsB (tbB b k) = numsB b := by
    unfold numsB numsTo tbB
    simp only [hlen]
    congr 1
    rw [Bool.eq_iff_iff]
    simp only [Bool.and_eq_true, List.all_eq_true, decide_eq_true_eq, (turnL_perm b.nums k).mem_iff, (turnL_perm b.nums k).nodup_iff]
  have hg : goodB (tbB b k) = goodB b := by unfold goodB; rw [hr, hn]; rfl
  rw [hl, hg]
  exact h
theorem tb_small {b : Brd} {k : Nat} (hk : k ≤ b.nums.length) (h : SmallB b) : SmallB (tbB b k) := ⟨h.r, h.l, by show (turnL b.nums k).length ≤ _; rw [turnL_len _ _ hk]; exact h.n⟩
theorem bed_turn {b : Brd} {k : Nat} (hg : GoodB b) (hl : linesB b.lines = true) (hk : k < b.nums.length) (p : Pt) :
    (bedB (tbB b k) p = bedB b p ∧ (bedB b p = 0 ∨ bedB b p = 225 ∨ bedB b p = 125)) ∨
      ∃ (f : Int) (s : Nat), (1 ≤ f ∧ f ≤ 4) ∧ s < b.nums.length ∧ bedB b p = 100 * f + b.nums.getD s 0 ∧ bedB (tbB b k) p = 100 * f + b.nums.getD ((s + b.nums.length - k) % b.nums.length) 0 := by
  have hw : onWire (tbB b k) p = onWire b p := rfl
  unfold bedB
  rw [hw]
  have e1 : (tbB b k).eye = b.eye := rfl
  have e2 : (tbB b k).bull = b.bull := rfl
  have e3 : ringOf (tbB b k) (dotP p p) = ringOf b (dotP p p) := rfl
  rw [e1, e2, e3]
  split
  · exact .inl ⟨rfl, .inl rfl⟩
  split
  · exact .inl ⟨rfl, .inr (.inl rfl)⟩
  rename_i h1 h2
  split
  · exact .inl ⟨rfl, .inr (.inr rfl)⟩
  unfold bedOf
  cases hr : ringOf b (dotP p p) with
  | none => exact .inl ⟨rfl, .inl rfl⟩
  | some r =>
    simp only
    by_cases hf0 : r.factor = 0
    · rw [if_pos hf0, if_pos hf0]; exact .inl ⟨rfl, .inl rfl⟩
    · rw [if_neg hf0, if_neg hf0]
      have hf := hg.fac r (List.mem_of_find?_eq_some hr)
      have hs : secB b.lines p < b.nums.length := by
        rw [hg.len]
        obtain ⟨h3, hb, -, -⟩ := lines_link hl
        have hf := ptAt_nz hb (by omega : 0 < b.lines.length)
        unfold secB
        exact (secUp_spec (l := b.lines) (f := ptAt b.lines 0) (d := p) (bef_not_first hf) b.lines.length (by omega)).1
      refine .inr ⟨r.factor, secB b.lines p, by omega, hs, rfl, ?_⟩
      have e4 : (tbB b k).nums = turnL b.nums k := rfl
      have e5 : (tbB b k).lines = b.lines := rfl
      rw [e4, e5, List.getD_eq_getElem?_getD, turnL_get b.nums k _ hk hs, List.getD_eq_getElem?_getD]
theorem turn_back (xs : List Int) (k : Nat) (hk : k < xs.length) : turnL (turnL xs k) ((xs.length - k) % xs.length) = xs := by
  rcases Nat.eq_zero_or_pos k with rfl | h0
  · rw [Nat.sub_zero, Nat.mod_self]
    unfold turnL
    simp
  · rw [Nat.mod_eq_of_lt (by omega)]
    have hlen := turnL_len xs k (by omega)
    have e : turnL (turnL xs k) (xs.length - k) = (turnL xs k).drop k ++ (turnL xs k).take k := by
      show (turnL xs k).drop ((turnL xs k).length - (xs.length - k)) ++ (turnL xs k).take ((turnL xs k).length - (xs.length - k)) = _
      rw [hlen, show xs.length - (xs.length - k) = k by omega]
    rw [e]
    unfold turnL
    have hd : (xs.drop (xs.length - k)).length = k := by rw [List.length_drop]; omega
    rw [List.drop_left' hd, List.take_left' hd, List.take_append_drop]
end Go.Proofs.Ytlkbbcfbnbnagaa
