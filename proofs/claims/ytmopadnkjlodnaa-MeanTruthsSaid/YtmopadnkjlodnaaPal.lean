/-
  All possible visits, as the reference lists them: plain, and in memory.
-/
import Derived.Test.YtmopadnkjlodnaaRhc
import Derived.Test.YtmopadnkjlodnaaLxa
namespace Go.Proofs.Ytmopadnkjlodnaa
open Go.RowKit
/-- A possible visit: its darts, and how many were at a finish. -/
structure Vi where
  beds : List Int
  tried : Int
section
variable (gin gout : Int) (beds : List Int) (sl score : Int) (wins : Bool)
def leafF (left eff : Int) (fb : List Int) (tr : Int) : List Vi := if (if eff = 2 then 0 else sl - left) = score ∧ (eff == 1) = wins then [⟨fb, tr⟩] else []
def allF : Nat → Int → Bool → Int → List Int → Int → List Vi
  | 0, left, _, eff, fb, tr => leafF sl score wins left eff fb tr
  | d + 1, left, inn, eff, fb, tr => if eff = 0 then (0 :: beds).flatMap fun b => allF d (hitS gin gout left inn b).1 (hitS gin gout left inn b).2.1 (hitS gin gout left inn b).2.2 (fb ++ [b]) (tr + finI gin gout beds left inn) else leafF sl score wins left eff fb tr
end
theorem leafF_len (sl score : Int) (wins : Bool) (left eff : Int) (fb : List Int) (tr : Int) : (leafF sl score wins left eff fb tr).length ≤ 1 := by
  unfold leafF
  by_cases h : (if eff = 2 then 0 else sl - left) = score ∧ (eff == 1) = wins
  · rw [if_pos h]; exact Nat.le_refl _
  · rw [if_neg h]; exact Nat.zero_le _
theorem flat_len {α β : Type} {f : α → List β} {c : Nat} : ∀ (l : List α), (∀ x ∈ l, (f x).length ≤ c) → (l.flatMap f).length ≤ l.length * c
  | [], _ => by simp
  | x :: l, h => by
    have h1 := flat_len l (fun y hy => h y (by simp [hy]))
    have h2 := h x (by simp)
    simp only [List.flatMap_cons, List.length_append, List.length_cons, Nat.add_mul, Nat.one_mul]
    omega
theorem allF_len {gin gout : Int} {beds : List Int} {sl score : Int} {wins : Bool} (hn : beds.length ≤ 9) : ∀ (d : Nat) (left : Int) (inn : Bool) (eff : Int) (fb : List Int) (tr : Int), (allF gin gout beds sl score wins d left inn eff fb tr).length ≤ 10 ^ d
  | 0, _, _, _, _, _ => leafF_len _ _ _ _ _ _ _
  | d + 1, left, inn, eff, fb, tr => by
    unfold allF
    split
    · have h1 := flat_len (f := fun b => allF gin gout beds sl score wins d (hitS gin gout left inn b).1 (hitS gin gout left inn b).2.1 (hitS gin gout left inn b).2.2 (fb ++ [b]) (tr + finI gin gout beds left inn)) (0 :: beds) (fun x _ => allF_len hn d _ _ _ _ _)
      refine Nat.le_trans h1 ?_
      rw [Nat.pow_succ, Nat.mul_comm (10 ^ d)]
      exact Nat.mul_le_mul_right _ (by simp; omega)
    · refine Nat.le_trans (leafF_len _ _ _ _ _ _ _) ?_
      exact Nat.pos_of_ne_zero (by simp)
/-- Visits in a row, each with its darts in a block of its own. -/
def VLs (w : World) (base : Nat) (v : Value) (l : List Vi) : Prop := ∃ vals : List Value, w.ownsRow base 114 2 v l.length vals ∧ vals.length = 2 * l.length ∧ ∀ i (h : i < l.length), ∃ a c, vals[2 * i]? = some (.slice a l[i].beds.length c) ∧ vals[2 * i + 1]? = some (.int .i64 l[i].tried) ∧ OwnD w base (.slice a l[i].beds.length c) l[i].beds
theorem VLs.nil (w : World) (base : Nat) : VLs w base (.slice none 0 0) [] := ⟨[], World.ownsRow_nil w base _ _, rfl, fun i hi => absurd hi (by simp)⟩
theorem VLs.shape {w : World} {base : Nat} {v : Value} {l : List Vi} (h : VLs w base v l) : ∃ a c, v = .slice a l.length c := let ⟨_, h1, _⟩ := h; own_shape h1
theorem VLs.ext {w w' : World} {base : Nat} {v : Value} {l : List Vi} (h : VLs w base v l) (hx : Ext w w') : VLs w' base v l :=
  let ⟨vals, h1, h2, h3⟩ := h; ⟨vals, own_chg h1 (hx.chg fun _ => False) fun _ _ => id, h2, fun i hi => let ⟨a, c, h4, h5, h6⟩ := h3 i hi; ⟨a, c, h4, h5, h6.ext hx⟩⟩
theorem VLs.low {w w' : World} {S : Nat → Prop} {base : Nat} {v : Value} {l : List Vi} (h : VLs w base v l) (hx : Chg S w w') (hs : ∀ k, base ≤ k → ¬ S k) : VLs w' base v l :=
  let ⟨vals, h1, h2, h3⟩ := h; ⟨vals, own_chg h1 hx (fun k hk => hs k (World.ownsRow.lt h1 k hk).1), h2, fun i hi => let ⟨a, c, h4, h5, h6⟩ := h3 i hi; ⟨a, c, h4, h5, own_chg h6 hx (fun k hk => hs k (World.ownsRow.lt h6 k hk).1)⟩⟩
theorem VLs.from {w : World} {base : Nat} {v : Value} {l : List Vi} (h : VLs w base v l) : ∀ k, v.ownBlock = some k → base ≤ k ∧ k < w.heap.size := let ⟨_, h1, _⟩ := h; fun k hk => World.ownsRow.lt h1 k hk
theorem vi_ne {w : World} {base : Nat} {v u : Value} {n m : Nat} {vals ys : List Value} (h1 : w.ownsRow base 114 2 v n vals) (hu : w.ownsRow base 99 1 u m ys) : ∀ k, u.ownBlock = some k → ¬ v.ownBlock = some k := by
  intro k hk e
  obtain ⟨_, e1⟩ := own_type hu hk
  obtain ⟨_, e2⟩ := own_type h1 e
  rw [e1] at e2
  cases e2
theorem VLs.snoc {w w' : World} {base : Nat} {v v' : Value} {l : List Vi} {x : Vi} {a : Option Addr} {c : Nat} {vals : List Value} (h1 : w.ownsRow base 114 2 v l.length vals) (h2 : vals.length = 2 * l.length)
    (h3 : ∀ i (h : i < l.length), ∃ a c, vals[2 * i]? = some (.slice a l[i].beds.length c) ∧ vals[2 * i + 1]? = some (.int .i64 l[i].tried) ∧ OwnD w base (.slice a l[i].beds.length c) l[i].beds) (hw : OwnD w base (.slice a x.beds.length c) x.beds)
    (hrow : w'.ownsRow base 114 2 v' (l.length + 1) (vals ++ [.slice a x.beds.length c, .int .i64 x.tried])) (hx : Chg (fun k => v.ownBlock = some k) w w') : VLs w' base v' (l ++ [x]) := by
  refine ⟨vals ++ [.slice a x.beds.length c, .int .i64 x.tried], by simpa using hrow, by simp [h2]; omega, fun i hi => ?_⟩
  by_cases hlt : i < l.length
  · obtain ⟨a', c', h4, h5, h6⟩ := h3 i hlt
    rw [List.getElem_append_left hlt, List.getElem?_append_left (by omega), List.getElem?_append_left (by omega)]
    exact ⟨a', c', h4, h5, own_chg h6 hx (vi_ne h1 h6)⟩
  · have : i = l.length := by simp at hi; omega
    subst this
    refine ⟨a, c, ?_, ?_, ?_⟩
    · rw [List.getElem?_append_right (by omega)]
      simp [h2]
    · rw [List.getElem?_append_right (by omega)]
      simp [h2]
    · simp only [List.getElem_append_right (Nat.le_refl _), Nat.sub_self, List.getElem_cons_zero]
      exact own_chg hw hx (vi_ne h1 hw)
theorem info_vi : (Try.prog.info? 114).map (fun i => (i.zero, i.size, i.bytes)) = some (some (.agg #[.slice none 0 0, .int .i64 0]), 2, 32) := by kernel_rfl
/-- The cells at an address read as integers, below a place. -/
def CellsB (w : World) (base : Nat) (a : Option Addr) (xs : List Int) : Prop := ∀ i, (h : i < xs.length) → ∃ b o, a = some ⟨b, o, none⟩ ∧ b < base ∧ w.cell? ⟨b, o + i, none⟩ = some (.int .i64 xs[i])
theorem CellsB.cells {w : World} {base : Nat} {a : Option Addr} {xs : List Int} (h : CellsB w base a xs) : CellsAt w .i64 a xs := fun i hi => let ⟨b, o, h1, _, h3⟩ := h i hi; ⟨b, o, h1, h3⟩
theorem CellsB.chg {w w' : World} {S : Nat → Prop} {base : Nat} {a : Option Addr} {xs : List Int} (h : CellsB w base a xs) (hx : Chg S w w') (hs : ∀ k, S k → base ≤ k) : CellsB w' base a xs := fun i hi =>
  let ⟨b, o, h1, h2, h3⟩ := h i hi; ⟨b, o, h1, h2, hx.cell h3 (fun e => by have := hs _ e; simp only at this; omega)⟩
theorem CellsB.ext {w w' : World} {base : Nat} {a : Option Addr} {xs : List Int} (h : CellsB w base a xs) (hx : Ext w w') : CellsB w' base a xs := h.chg (hx.chg fun _ => False) (fun _ e => e.elim)
theorem CellsB.of {w w' : World} {a : Option Addr} {xs : List Int} (h : CellsAt w .i64 a xs) (hx : Ext w w') : CellsB w' w.heap.size a xs := fun i hi =>
  let ⟨b, o, h1, h2⟩ := h i hi; ⟨b, o, h1, lt_of_cell h2, hx.cell h2⟩
end Go.Proofs.Ytmopadnkjlodnaa
