/-
  Package leg: darts at the bull, as data: the plain law of LegBull. No walk here.
-/
import Derived.Test.YtocnglplhnhllaaOfi
import Derived.Test.YtocnglplhnhllaaLof
import Derived.Test.YtocnglplhnhllaaKep
namespace Go.Proofs.Ytocnglplhnhllaa
open Go.RowKit
/-- A dart from a number. -/
def dartO (x : Int) : Toss := if x % 10001 < 65 then ⟨225, x % 10001⟩ else if x % 10001 < 160 then ⟨125, x % 10001⟩ else if 1700 < x % 10001 then ⟨0, x % 10001⟩ else ⟨101, x % 10001⟩
theorem dartO_far (x : Int) : 0 ≤ (dartO x).far ∧ (dartO x).far ≤ 10000 := by
  unfold dartO
  split
  · simp only; omega
  · split
    · simp only; omega
    · split <;> simp only <;> omega
theorem dartO_bed (x : Int) : (dartO x).bed = 225 ∨ (dartO x).bed = 125 ∨ (dartO x).bed = 0 ∨ (dartO x).bed = 101 := by
  unfold dartO
  split
  · simp
  · split
    · simp
    · split <;> simp
theorem dartO_i64 (x : Int) : I64 (dartO x).bed := by
  unfold I64
  rcases dartO_bed x with h | h | h | h <;> rw [h] <;> omega
theorem dartO_ok (x : Int) : (dartO x).ok = true := by
  have hf := dartO_far x
  unfold Toss.ok
  rw [Bool.and_eq_true]
  refine ⟨?_, ins_one.2 hf⟩
  rcases dartO_bed x with h | h | h | h <;> rw [h] <;> decide
/-- How good a dart is. -/
def clsO (o : Toss) : Int := if o.bed = 225 then 0 else if o.bed = 125 then 1 else if o.bed = 0 then 10003 else 2 + o.far
theorem clsO_rank (o : Toss) : clsO o = o.rank + 2 := by
  unfold clsO Toss.rank
  split
  · rfl
  · split
    · rfl
    · split <;> omega
theorem minT_le : ∀ (l : List Toss) (m : Toss), (minT m l).rank ≤ m.rank ∧ ∀ o ∈ l, (minT m l).rank ≤ o.rank
  | [], m => ⟨Int.le_refl _, fun o h => by cases h⟩
  | x :: l, m => by
    unfold minT
    have := minT_le l (if x.rank < m.rank then x else m)
    refine ⟨?_, fun o h => ?_⟩
    · have h1 := this.1
      split at h1 <;> rename_i h2
      · rw [if_pos h2]; omega
      · rw [if_neg h2]; omega
    · rcases List.mem_cons.1 h with rfl | h
      · have h1 := this.1
        split at h1 <;> rename_i h2
        · rw [if_pos h2]; omega
        · rw [if_neg h2]; omega
      · exact this.2 o h
theorem leastT_le (l : List Toss) : ∀ o ∈ l, leastT l ≤ o.rank := by
  cases l with
  | nil => intro o h; cases h
  | cons x t =>
    intro o h
    unfold leastT
    rcases List.mem_cons.1 h with rfl | h
    · exact (minT_le t o).1
    · exact (minT_le t x).2 o h
/-- Whether no dart of some is better than one. -/
def mostB (o : Toss) (l : List Toss) : Bool := l.all fun y => decide (clsO o ≤ clsO y)
theorem mostB_snoc (o y : Toss) (l : List Toss) : mostB o (l ++ [y]) = (mostB o l && decide (clsO o ≤ clsO y)) := by simp [mostB]
theorem mostB_least {l : List Toss} {i : Nat} (hi : i < l.length) : mostB l[i] l = decide (l[i].rank = leastT l) := by
  rw [Bool.eq_iff_iff]
  unfold mostB
  rw [List.all_eq_true, decide_eq_true_iff]
  constructor
  · intro h
    obtain ⟨o, ho, he⟩ := leastT_attained (l := l) (by omega)
    have h1 := h o ho
    rw [decide_eq_true_iff, clsO_rank, clsO_rank] at h1
    have h2 := leastT_le l _ (List.getElem_mem hi)
    omega
  · intro h o ho
    have h2 := leastT_le l o ho
    rw [decide_eq_true_iff, clsO_rank, clsO_rank]
    omega
theorem bestW_snoc (r : Int) (p : Int) (o : Toss) : ∀ (ps : List Int) (l : List Toss), ps.length = l.length → bestW r (ps ++ [p]) (l ++ [o]) = bestW r ps l ++ (if o.rank = r then [p] else [])
  | [], [], _ => by simp [bestW]
  | [], _ :: _, h => by simp at h
  | _ :: _, [], h => by simp at h
  | q :: ps, x :: l, h => by
    have := bestW_snoc r p o ps l (by simpa using h)
    simp only [List.cons_append, bestW, this]
    split <;> simp
theorem bestW_map (r : Int) (f : Int → Int) : ∀ (ps : List Int) (l : List Toss), bestW r (ps.map f) l = (bestW r ps l).map f
  | [], l => by simp [bestW]
  | p :: ps, [] => by simp [bestW]
  | p :: ps, x :: l => by
    simp only [List.map_cons, bestW, bestW_map r f ps l]
    split <;> simp
theorem bestW_mem (r : Int) : ∀ (ps : List Int) (l : List Toss), ∀ p ∈ bestW r ps l, p ∈ ps
  | [], l, p, h => by simp [bestW] at h
  | q :: ps, [], p, h => by simp [bestW] at h
  | q :: ps, x :: l, p, h => by
    simp only [bestW] at h
    split at h
    · rcases List.mem_cons.1 h with rfl | h
      · exact List.mem_cons_self
      · exact List.mem_cons_of_mem _ (bestW_mem r ps l p h)
    · exact List.mem_cons_of_mem _ (bestW_mem r ps l p h)
theorem upto_mem {n : Nat} {p : Int} (h : p ∈ upto n) : 0 ≤ p ∧ p < n := by
  simp only [upto, List.mem_map, List.mem_range] at h
  obtain ⟨i, hi, rfl⟩ := h
  omega
theorem upto_map (ps : List Int) : (upto ps.length).map (fun i => ps.getD i.toNat 0) = ps := by
  apply List.ext_getElem
  · simp [upto]
  · intro i h1 h2
    simp [upto, h2]
/-- The best of a round. -/
def bstO (l : List Toss) : List Int := bestW (leastT l) (upto l.length) l
theorem bstO_pos {l : List Toss} (h : 0 < l.length) : 0 < (bstO l).length := bestW_ne _ _ _ (upto_length _) (leastT_attained h)
theorem bstO_mem {l : List Toss} {p : Int} (h : p ∈ bstO l) : 0 ≤ p ∧ p < l.length := upto_mem (bestW_mem _ _ _ _ h)
theorem bstO_le (l : List Toss) : (bstO l).length ≤ l.length := by
  have := bestW_length (leastT l) (upto l.length) l
  rw [upto_length] at this
  exact this
theorem any_ok {l : List Toss} (h : ∀ o ∈ l, o.ok = true) : (l.any fun o => !o.ok) = false := List.any_eq_false.2 fun o ho => by simp [h o ho]
theorem ins_players {n : Nat} (h : 1 ≤ n) (h8 : n ≤ 8) : ins 1 8 [(n : Int)] = true := ins_one.2 ⟨by omega, by omega⟩
theorem offS_one {l : List Toss} (h1 : l.length = 1) : offS (l.length : Int) [l] = (0, 33) := by
  unfold offS
  rw [if_neg (by rw [ins_players (by omega) (by omega)]; simp), if_neg (by simp), Int.toNat_natCast]
  unfold offW
  rw [if_pos (by rw [upto_length]; exact h1)]
  rfl
theorem offS_first {l : List Toss} (h2 : 2 ≤ l.length) (h8 : l.length ≤ 8) (hok : ∀ o ∈ l, o.ok = true) : offS (l.length : Int) [l] = if 1 < (bstO l).length then (0, 31) else ((bstO l).headD 0, 0) := by
  unfold offS
  rw [if_neg (by rw [ins_players (by omega) h8]; simp), if_neg (by simp), Int.toNat_natCast]
  unfold offW
  rw [if_neg (by rw [upto_length]; omega), if_neg (by rw [upto_length]; simp), if_neg (by rw [any_ok hok]; simp)]
  rfl
theorem offS_none : offS 1 [] = (0, 0) := by decide
theorem offS_form {l m : List Toss} (h2 : 2 ≤ l.length) (h8 : l.length ≤ 8) (hok : ∀ o ∈ l, o.ok = true) (hb : 1 < (bstO l).length) (hm : m.length < (bstO l).length) : offS (l.length : Int) [l, m] = (0, 4) := by
  unfold offS
  rw [if_neg (by rw [ins_players (by omega) h8]; simp), if_neg (by simp), Int.toNat_natCast]
  unfold offW
  rw [if_neg (by rw [upto_length]; omega), if_neg (by rw [upto_length]; simp), if_neg (by rw [any_ok hok]; simp)]
  unfold offW
  rw [if_neg (by show ¬ (bstO l).length = 1; omega), if_pos (by show m.length ≠ (bstO l).length; omega)]
  rfl
theorem offS_second {l m : List Toss} (h2 : 2 ≤ l.length) (h8 : l.length ≤ 8) (hok : ∀ o ∈ l, o.ok = true) (hom : ∀ o ∈ m, o.ok = true) (hb : 1 < (bstO l).length) (hm : m.length = (bstO l).length) :
    offS (l.length : Int) [l, m] = if 1 < (bstO m).length then (0, 31) else ((bstO l).getD ((bstO m).headD 0).toNat 0, 0) := by
  unfold offS
  rw [if_neg (by rw [ins_players (by omega) h8]; simp), if_neg (by simp), Int.toNat_natCast]
  unfold offW
  rw [if_neg (by rw [upto_length]; omega), if_neg (by rw [upto_length]; simp), if_neg (by rw [any_ok hok]; simp)]
  unfold offW
  rw [if_neg (by show ¬ (bstO l).length = 1; omega), if_neg (by show ¬ m.length ≠ (bstO l).length; omega), if_neg (by rw [any_ok hom]; simp)]
  show offE (.inl (bestW (leastT m) (bstO l) m)) = _
  have e : bestW (leastT m) (bstO l) m = (bstO m).map (fun i => (bstO l).getD i.toNat 0) := by
    unfold bstO
    rw [← bestW_map, hm]
    unfold bstO
    rw [upto_map]
  rw [e]
  simp only [offE, List.length_map]
  split
  · rfl
  · rename_i h
    have hp := bstO_pos (l := m) (by omega)
    cases hc : bstO m with
    | nil => rw [hc] at hp; simp at hp
    | cons x t => rfl
theorem bestW_next {l : List Toss} {j : Nat} (hj : j < l.length) : bestW (leastT l) (upto (j + 1)) (l.take (j + 1)) = bestW (leastT l) (upto j) (l.take j) ++ (if mostB l[j] l = true then [(j : Int)] else []) := by
  rw [upto_succ, List.take_succ_eq_append_getElem hj, bestW_snoc _ _ _ _ _ (by rw [upto_length, List.length_take]; omega), mostB_least hj]
  simp
theorem bestW_all (l : List Toss) : bestW (leastT l) (upto l.length) (l.take l.length) = bstO l := by rw [List.take_of_length_le (Nat.le_refl _)]; rfl
/-- A row of darts of one's own. -/
def OwnT (w : World) (base : Nat) (v : Value) (l : List Toss) : Prop := w.ownsRow base 91 2 v l.length (l.flatMap Toss.cells)
theorem OwnT.ext {w w' : World} {base : Nat} {v : Value} {l : List Toss} (h : OwnT w base v l) (hx : Ext w w') : OwnT w' base v l := own_chg h (hx.chg fun _ => False) fun _ _ => id
theorem OwnT.toss {w : World} {base : Nat} {v : Value} {l : List Toss} (h : OwnT w base v l) : ∃ a c, v = .slice a l.length c ∧ TossAt w a l := own_toss h
theorem own_nilcap {w : World} {base s n c : Nat} {e : TypeId} {a : Option Addr} {xs : List Value} (h : w.ownsRow base e s (.slice a n c) n xs) : a = none → n = 0 ∧ c = 0 := by
  rintro rfl
  obtain ⟨_, ⟨e, h2⟩ | ⟨g, cap, cur, e, _⟩⟩ := h
  · injection e with _ e2 e3; exact ⟨e2, e3⟩
  · cases e
theorem RoundsAt.mk1 {w : World} {k n c : Nat} {a : Option Addr} {l : List Toss} (h : w.cell? ⟨k, 0, none⟩ = some (.slice a n c)) (hn : l.length = n) (ht : TossAt w a l) : RoundsAt w (some ⟨k, 0, none⟩) [l] := fun i hi => by
  match i, hi with
  | 0, _ => exact ⟨k, 0, a, c, rfl, by subst hn; exact h, ht⟩
theorem RoundsAt.mk2 {w : World} {k n c n' c' : Nat} {a a' : Option Addr} {l m : List Toss} (h : w.cell? ⟨k, 0, none⟩ = some (.slice a n c)) (h' : w.cell? ⟨k, 1, none⟩ = some (.slice a' n' c')) (hn : l.length = n) (hn' : m.length = n') (ht : TossAt w a l) (ht' : TossAt w a' m) : RoundsAt w (some ⟨k, 0, none⟩) [l, m] := fun i hi => by
  match i, hi with
  | 0, _ => exact ⟨k, 0, a, c, rfl, by subst hn; exact h, ht⟩
  | 1, _ => exact ⟨k, 0, a', c', rfl, by subst hn'; exact h', ht'⟩
theorem leg_Off' (players : Int) (rs : List (List Toss)) (n : Nat) (hn : rs.length = n) (a : Option Addr) (c : Nat) (w : World) (ha : RoundsAt w a rs) (hlen : rs.length ≤ 100) (hb : ∀ r ∈ rs, ∀ x ∈ r, I64 x.bed) (x y : Int) (hT : offS players rs = (x, y)) :
    Calls Try.prog 29 #[.int .i64 players, .slice a n c] w fun e w' => e = .returned (.tuple #[.int .i64 x, .int .i64 y]) ∧ Ext w w' := by
  subst hn
  exact leg_Off players rs a c w ha (by omega) hb _ hT
end Go.Proofs.Ytocnglplhnhllaa
