/-
  The plain geometry of a board's lines: signs of cross and dot products settle which line is ahead of which, and in which sector a point is.
-/
import Derived.Test.YtlkbbcfbnbnagaaGreatBoG
namespace Go.Proofs.YtlkbbcfbnbnagaaGreat
inductive Sg where
  | n
  | z
  | p
  deriving DecidableEq
namespace Sg
def mul : Sg → Sg → Sg
  | .z, _ => .z
  | _, .z => .z
  | .p, b => b
  | .n, .p => .n
  | .n, .n => .p
def neg : Sg → Sg
  | .n => .p
  | .z => .z
  | .p => .n
def isZ : Sg → Bool
  | .z => true
  | _ => false
def isP : Sg → Bool
  | .p => true
  | _ => false
def isN : Sg → Bool
  | .n => true
  | _ => false
def eq : Sg → Sg → Bool
  | .n, .n => true
  | .z, .z => true
  | .p, .p => true
  | _, _ => false
/-- A sum of an a and a b can be a c. -/
def add : Sg → Sg → Sg → Bool
  | .z, b, c => eq b c
  | a, .z, c => eq a c
  | .p, .p, c => isP c
  | .n, .n, c => isN c
  | .p, .n, _ => true
  | .n, .p, _ => true
def all (f : Sg → Bool) : Bool := f .n && (f .z && f .p)
theorem all_spec {f : Sg → Bool} (h : all f = true) (s : Sg) : f s = true := by
  simp only [all, Bool.and_eq_true] at h
  cases s
  · exact h.1
  · exact h.2.1
  · exact h.2.2
def imp (a b : Bool) : Bool := match a with
  | true => b
  | false => true
def boolEq : Bool → Bool → Bool
  | true, b => b
  | false, b => !b
theorem boolEq_spec {a b : Bool} (h : boolEq a b = true) : a = b := by cases a <;> cases b <;> first | rfl | cases h
theorem imp_spec {a b : Bool} (h : imp a b = true) (ha : a = true) : b = true := by subst ha; exact h
end Sg
def sg (x : Int) : Sg := if x < 0 then .n else if x = 0 then .z else .p
theorem sg_n {x : Int} (h : x < 0) : sg x = .n := if_pos h
theorem sg_z {x : Int} (h : x = 0) : sg x = .z := by subst h; rfl
theorem sg_p {x : Int} (h : 0 < x) : sg x = .p := by unfold sg; rw [if_neg (by omega), if_neg (by omega)]
theorem sg_cases (x : Int) : (x < 0 ∧ sg x = .n) ∨ (x = 0 ∧ sg x = .z) ∨ (0 < x ∧ sg x = .p) := by
  rcases Int.lt_trichotomy x 0 with h | h | h
  · exact .inl ⟨h, sg_n h⟩
  · exact .inr (.inl ⟨h, sg_z h⟩)
  · exact .inr (.inr ⟨h, sg_p h⟩)
theorem sg_neg (x : Int) : sg (-x) = (sg x).neg := by
  rcases sg_cases x with ⟨h, e⟩ | ⟨h, e⟩ | ⟨h, e⟩ <;> rw [e]
  · exact sg_p (by omega)
  · exact sg_z (by omega)
  · exact sg_n (by omega)
theorem sg_mul (x y : Int) : sg (x * y) = (sg x).mul (sg y) := by
  rcases sg_cases x with ⟨h, e⟩ | ⟨h, e⟩ | ⟨h, e⟩ <;> rcases sg_cases y with ⟨k, f⟩ | ⟨k, f⟩ | ⟨k, f⟩ <;> rw [e, f]
  · exact sg_p (Int.mul_pos_of_neg_of_neg h k)
  · exact sg_z (by rw [k]; simp)
  · exact sg_n (Int.mul_neg_of_neg_of_pos h k)
  · exact sg_z (by rw [h]; simp)
  · exact sg_z (by rw [h]; simp)
  · exact sg_z (by rw [h]; simp)
  · exact sg_n (Int.mul_neg_of_pos_of_neg h k)
  · exact sg_z (by rw [k]; simp)
  · exact sg_p (Int.mul_pos h k)
theorem sg_add (x y : Int) : Sg.add (sg x) (sg y) (sg (x + y)) = true := by
  rcases sg_cases x with ⟨h, e⟩ | ⟨h, e⟩ | ⟨h, e⟩ <;> rcases sg_cases y with ⟨k, f⟩ | ⟨k, f⟩ | ⟨k, f⟩ <;> rw [e, f]
  · rw [sg_n (by omega)]; rfl
  · rw [sg_n (by omega)]; rfl
  · rfl
  · rw [sg_n (by omega)]; rfl
  · rw [sg_z (by omega)]; rfl
  · rw [sg_p (by omega)]; rfl
  · rfl
  · rw [sg_p (by omega)]; rfl
  · rw [sg_p (by omega)]; rfl
def partS (c d : Sg) : Nat := match c with
  | .n => 1
  | .p => 3
  | .z => match d with
    | .p => 0
    | _ => 2
def ltS (ca da cb db wab : Sg) : Bool := match partS ca da, partS cb db with
  | 0, 0 => wab.isN
  | 1, 1 => wab.isN
  | 2, 2 => wab.isN
  | 3, 3 => wab.isN
  | i, j => Nat.blt i j
def btwS (ap sap pb : Sg) : Bool := match ap with
  | .z => sap.isP
  | .n => pb.isN
  | .p => false
def nzS (c d : Sg) : Bool := !(c.isZ && d.isZ)
def twoS (ca da cb db wab : Sg) : Bool := Sg.add (da.mul cb) (ca.mul db).neg wab
def dotS (ca da cb db sab : Sg) : Bool := Sg.add (da.mul db) (ca.mul cb) sab
def threeS (ca da cb db cp dp wab wbp wpa : Sg) : Bool := Sg.add (cp.mul wab) (ca.mul wbp) (cb.mul wpa).neg && Sg.add (dp.mul wab) (da.mul wbp) (db.mul wpa).neg
def Pt.nz (p : Pt) : Prop := ¬ (p.x = 0 ∧ p.y = 0)
theorem sq_pos {f : Pt} (hf : f.nz) : 0 < dotP f f := by
  unfold dotP
  have h1 : 0 ≤ f.x * f.x := by rw [← Int.natAbs_mul_self]; exact Int.natCast_nonneg _
  have h2 : 0 ≤ f.y * f.y := by rw [← Int.natAbs_mul_self]; exact Int.natCast_nonneg _
  rcases Decidable.em (f.x = 0) with hx | hx
  · have : f.y ≠ 0 := fun hy => hf ⟨hx, hy⟩
    have : f.y * f.y ≠ 0 := Int.mul_ne_zero this this
    omega
  · have : f.x * f.x ≠ 0 := Int.mul_ne_zero hx hx
    omega
theorem two_of {f : Pt} (hf : f.nz) (a b : Pt) : twoS (sg (crossP f a)) (sg (dotP f a)) (sg (crossP f b)) (sg (dotP f b)) (sg (crossP a b)) = true := by
  have h := sg_add (dotP f a * crossP f b) (-(crossP f a * dotP f b))
  have e : dotP f a * crossP f b + -(crossP f a * dotP f b) = dotP f f * crossP a b := by unfold dotP crossP; grind
  rw [e, sg_mul, sg_neg, sg_mul, sg_mul, sg_p (sq_pos hf)] at h
  unfold twoS
  have e2 : Sg.mul .p (sg (crossP a b)) = sg (crossP a b) := by cases sg (crossP a b) <;> rfl
  rw [e2] at h
  exact h
theorem dot_of {f : Pt} (hf : f.nz) (a b : Pt) : dotS (sg (crossP f a)) (sg (dotP f a)) (sg (crossP f b)) (sg (dotP f b)) (sg (dotP a b)) = true := by
  have h := sg_add (dotP f a * dotP f b) (crossP f a * crossP f b)
  have e : dotP f a * dotP f b + crossP f a * crossP f b = dotP f f * dotP a b := by unfold dotP crossP; grind
  rw [e, sg_mul, sg_mul, sg_mul, sg_p (sq_pos hf)] at h
  have e2 : Sg.mul .p (sg (dotP a b)) = sg (dotP a b) := by cases sg (dotP a b) <;> rfl
  rw [e2] at h
  exact h
theorem three_of (f a b p : Pt) : threeS (sg (crossP f a)) (sg (dotP f a)) (sg (crossP f b)) (sg (dotP f b)) (sg (crossP f p)) (sg (dotP f p)) (sg (crossP a b)) (sg (crossP b p)) (sg (crossP p a)) = true := by
  have h := sg_add (crossP f p * crossP a b) (crossP f a * crossP b p)
  have e : crossP f p * crossP a b + crossP f a * crossP b p = -(crossP f b * crossP p a) := by unfold crossP; grind
  have k := sg_add (dotP f p * crossP a b) (dotP f a * crossP b p)
  have e' : dotP f p * crossP a b + dotP f a * crossP b p = -(dotP f b * crossP p a) := by unfold crossP dotP; grind
  rw [e, sg_neg, sg_mul, sg_mul, sg_mul] at h
  rw [e', sg_neg, sg_mul, sg_mul, sg_mul] at k
  unfold threeS
  rw [h, k]; rfl
theorem nz_of {f a : Pt} (hf : f.nz) (ha : a.nz) : nzS (sg (crossP f a)) (sg (dotP f a)) = true := by
  unfold nzS
  rcases sg_cases (crossP f a) with ⟨h, e⟩ | ⟨h, e⟩ | ⟨h, e⟩ <;> rcases sg_cases (dotP f a) with ⟨k, g⟩ | ⟨k, g⟩ | ⟨k, g⟩ <;> rw [e, g] <;> try rfl
  exfalso
  have hp := sq_pos hf
  have hq := sq_pos ha
  have e1 : crossP f a * crossP f a + dotP f a * dotP f a = dotP f f * dotP a a := by unfold dotP crossP; grind
  rw [h, k] at e1
  have := Int.mul_pos hp hq
  omega
theorem part_of (f a : Pt) : partP f a = partS (sg (crossP f a)) (sg (dotP f a)) := by
  unfold partP partS
  rcases sg_cases (crossP f a) with ⟨h, e⟩ | ⟨h, e⟩ | ⟨h, e⟩ <;> rw [e]
  · rw [if_pos h]; rfl
  · rw [if_neg (by omega), if_neg (by omega)]
    rcases sg_cases (dotP f a) with ⟨k, g⟩ | ⟨k, g⟩ | ⟨k, g⟩ <;> rw [g]
    · rw [if_neg (by omega)]; rfl
    · rw [if_neg (by omega)]; rfl
    · rw [if_pos k]; rfl
  · rw [if_neg (by omega), if_pos h]; rfl
theorem isN_of (x : Int) : (sg x).isN = decide (x < 0) := by
  rcases sg_cases x with ⟨h, e⟩ | ⟨h, e⟩ | ⟨h, e⟩ <;> rw [e] <;> simp [Sg.isN] <;> omega
theorem isP_of (x : Int) : (sg x).isP = decide (0 < x) := by
  rcases sg_cases x with ⟨h, e⟩ | ⟨h, e⟩ | ⟨h, e⟩ <;> rw [e] <;> simp [Sg.isP] <;> omega
theorem bef_of (f a b : Pt) : befP f a b = ltS (sg (crossP f a)) (sg (dotP f a)) (sg (crossP f b)) (sg (dotP f b)) (sg (crossP a b)) := by
  unfold befP
  rw [part_of, part_of, ← isN_of]
  cases sg (crossP f a) <;> cases sg (dotP f a) <;> cases sg (crossP f b) <;> cases sg (dotP f b) <;> cases sg (crossP a b) <;> rfl
def btwP (a b p : Pt) : Bool := if crossP a p = 0 then decide (0 < dotP a p) else decide (crossP a p < 0) && decide (crossP p b < 0)
theorem btw_of (a b p : Pt) : btwP a b p = btwS (sg (crossP a p)) (sg (dotP a p)) (sg (crossP p b)) := by
  unfold btwP
  rcases sg_cases (crossP a p) with ⟨h, e⟩ | ⟨h, e⟩ | ⟨h, e⟩ <;> rw [e]
  · rw [if_neg (by omega)]; simp [btwS, h, isN_of]
  · rw [if_pos h]; simp [btwS, isP_of]
  · rw [if_neg (by omega)]; simp [btwS]; omega
theorem cross_swap (a b : Pt) : crossP a b = -crossP b a := by unfold crossP; grind
open Sg in
theorem trans_all : (all fun ca => all fun da => imp (nzS ca da) <| all fun cb => all fun db => imp (nzS cb db) <| all fun wab => imp (twoS ca da cb db wab) <| imp (ltS ca da cb db wab) <|
    all fun cp => all fun dp => imp (nzS cp dp) <| all fun wbp => imp (twoS cb db cp dp wbp) <| imp (ltS cb db cp dp wbp) <| all fun wpa => imp (twoS cp dp ca da wpa) <| imp (threeS ca da cb db cp dp wab wbp wpa) <|
      ltS ca da cp dp wpa.neg) = true := by decide +kernel
theorem bef_trans {f a b c : Pt} (hf : f.nz) (ha : a.nz) (hb : b.nz) (hc : c.nz) (h1 : befP f a b = true) (h2 : befP f b c = true) : befP f a c = true := by
  rw [bef_of] at h1 h2 ⊢
  have h := Sg.imp_spec (Sg.all_spec (Sg.all_spec trans_all (sg (crossP f a))) (sg (dotP f a))) (nz_of hf ha)
  replace h := Sg.imp_spec (Sg.all_spec (Sg.all_spec h (sg (crossP f b))) (sg (dotP f b))) (nz_of hf hb)
  replace h := Sg.imp_spec (Sg.imp_spec (Sg.all_spec h (sg (crossP a b))) (two_of hf a b)) h1
  replace h := Sg.imp_spec (Sg.all_spec (Sg.all_spec h (sg (crossP f c))) (sg (dotP f c))) (nz_of hf hc)
  replace h := Sg.imp_spec (Sg.imp_spec (Sg.all_spec h (sg (crossP b c))) (two_of hf b c)) h2
  replace h := Sg.imp_spec (Sg.imp_spec (Sg.all_spec h (sg (crossP c a))) (two_of hf c a)) (three_of f a b c)
  rw [← sg_neg, ← cross_swap] at h
  exact h
open Sg in
theorem btw_all : (all fun ca => all fun da => imp (nzS ca da) <| all fun cb => all fun db => imp (nzS cb db) <| all fun wab => imp (twoS ca da cb db wab) <| imp wab.isN <| imp (ltS ca da cb db wab) <|
    all fun cp => all fun dp => imp (nzS cp dp) <| all fun wbp => imp (twoS cb db cp dp wbp) <| all fun wpa => imp (twoS cp dp ca da wpa) <| imp (threeS ca da cb db cp dp wab wbp wpa) <|
      all fun sap => imp (dotS ca da cp dp sap) <| Sg.boolEq (btwS wpa.neg sap wbp.neg) (!ltS cp dp ca da wpa && ltS cp dp cb db wbp.neg)) = true := by decide +kernel
theorem btw_bef {f a b p : Pt} (hf : f.nz) (ha : a.nz) (hb : b.nz) (hp : p.nz) (h1 : crossP a b < 0) (h2 : befP f a b = true) : btwP a b p = (!befP f p a && befP f p b) := by
  rw [bef_of] at h2
  have h := Sg.imp_spec (Sg.all_spec (Sg.all_spec btw_all (sg (crossP f a))) (sg (dotP f a))) (nz_of hf ha)
  replace h := Sg.imp_spec (Sg.all_spec (Sg.all_spec h (sg (crossP f b))) (sg (dotP f b))) (nz_of hf hb)
  replace h := Sg.imp_spec (Sg.imp_spec (Sg.imp_spec (Sg.all_spec h (sg (crossP a b))) (two_of hf a b)) (by rw [isN_of]; exact decide_eq_true h1)) h2
  replace h := Sg.imp_spec (Sg.all_spec (Sg.all_spec h (sg (crossP f p))) (sg (dotP f p))) (nz_of hf hp)
  replace h := Sg.imp_spec (Sg.all_spec h (sg (crossP b p))) (two_of hf b p)
  replace h := Sg.imp_spec (Sg.imp_spec (Sg.all_spec h (sg (crossP p a))) (two_of hf p a)) (three_of f a b p)
  replace h := Sg.imp_spec (Sg.all_spec h (sg (dotP a p))) (dot_of hf a p)
  replace h := Sg.boolEq_spec h
  rw [← sg_neg, ← sg_neg, ← cross_swap, ← cross_swap] at h
  rw [btw_of, bef_of, bef_of]
  exact h
theorem cross_self (f : Pt) : crossP f f = 0 := by unfold crossP; grind
open Sg in
theorem last_all : (all fun ca => all fun da => imp (nzS ca da) <| imp ca.isP <|
    all fun cp => all fun dp => imp (nzS cp dp) <| all fun wpa => imp (twoS cp dp ca da wpa) <|
      all fun sap => imp (dotS ca da cp dp sap) <| Sg.boolEq (btwS wpa.neg sap cp.neg) (!ltS cp dp ca da wpa)) = true := by decide +kernel
theorem btw_last {f a p : Pt} (hf : f.nz) (ha : a.nz) (hp : p.nz) (h1 : crossP a f < 0) : btwP a f p = !befP f p a := by
  have h := Sg.imp_spec (Sg.all_spec (Sg.all_spec last_all (sg (crossP f a))) (sg (dotP f a))) (nz_of hf ha)
  replace h := Sg.imp_spec h (by rw [isP_of, cross_swap]; exact decide_eq_true (by omega))
  replace h := Sg.imp_spec (Sg.all_spec (Sg.all_spec h (sg (crossP f p))) (sg (dotP f p))) (nz_of hf hp)
  replace h := Sg.imp_spec (Sg.all_spec h (sg (crossP p a))) (two_of hf p a)
  replace h := Sg.imp_spec (Sg.all_spec h (sg (dotP a p))) (dot_of hf a p)
  replace h := Sg.boolEq_spec h
  rw [← sg_neg, ← sg_neg, ← cross_swap, ← cross_swap] at h
  rw [btw_of, bef_of]
  exact h
def samS (c d : Sg) : Bool := c.isZ && d.isP
open Sg in
theorem first_all : (all fun ca => all fun da => imp (nzS ca da) <| all fun cb => all fun db => imp (nzS cb db) <| all fun wab => imp (twoS ca da cb db wab) <| imp wab.isN <|
    Sg.boolEq (ltS ca da cb db wab) (samS ca da || (!btwS ca.neg da cb && !samS cb db))) = true := by decide +kernel
theorem dot_swap (a b : Pt) : dotP a b = dotP b a := by unfold dotP; grind
def samP (f a : Pt) : Bool := crossP f a == 0 && decide (0 < dotP f a)
theorem sam_of (f a : Pt) : samP f a = samS (sg (crossP f a)) (sg (dotP f a)) := by
  unfold samP samS
  rw [isP_of]
  rcases sg_cases (crossP f a) with ⟨h, e⟩ | ⟨h, e⟩ | ⟨h, e⟩ <;> rw [e] <;> simp [Sg.isZ] <;> intro <;> omega
theorem bef_step {f a b : Pt} (hf : f.nz) (ha : a.nz) (hb : b.nz) (h1 : crossP a b < 0) : befP f a b = (samP f a || (!btwP a b f && !samP f b)) := by
  have h := Sg.imp_spec (Sg.all_spec (Sg.all_spec first_all (sg (crossP f a))) (sg (dotP f a))) (nz_of hf ha)
  replace h := Sg.imp_spec (Sg.all_spec (Sg.all_spec h (sg (crossP f b))) (sg (dotP f b))) (nz_of hf hb)
  replace h := Sg.imp_spec (Sg.imp_spec (Sg.all_spec h (sg (crossP a b))) (two_of hf a b)) (by rw [isN_of]; exact decide_eq_true h1)
  replace h := Sg.boolEq_spec h
  rw [← sg_neg, ← cross_swap] at h
  rw [btw_of, bef_of, sam_of, sam_of, dot_swap a f]
  exact h
theorem samP_self {f : Pt} (hf : f.nz) : samP f f = true := by unfold samP; rw [cross_self]; simp [sq_pos hf]
theorem btw_same {f a b : Pt} (h : samP f a = true) : btwP a b f = true := by
  simp only [samP, Bool.and_eq_true, beq_iff_eq, decide_eq_true_eq] at h
  unfold btwP
  rw [cross_swap, h.1, Int.neg_zero, if_pos rfl, dot_swap, decide_eq_true_iff]
  exact h.2
/-- How often a test holds below n. -/
def cntTo (q : Nat → Bool) : Nat → Nat
  | 0 => 0
  | k + 1 => cntTo q k + if q k = true then 1 else 0
theorem cntTo_le (q : Nat → Bool) : ∀ (n m : Nat), n ≤ m → cntTo q n ≤ cntTo q m
  | n, 0, h => by obtain rfl : n = 0 := by omega
                  exact Nat.le_refl _
  | n, m + 1, h => by
    rcases Nat.lt_or_ge m n with h1 | h1
    · obtain rfl : n = m + 1 := by omega
      exact Nat.le_refl _
    · have := cntTo_le q n m h1
      show _ ≤ cntTo q m + _
      omega
theorem cntTo_one (q : Nat → Bool) (h0 : q 0 = true) : ∀ (n : Nat), 0 < n → (cntTo q n = 1 ↔ ∀ i, 1 ≤ i → i < n → q i = false)
  | 1, _ => by
    simp only [cntTo, h0, if_pos]
    exact ⟨fun _ i h1 h2 => by omega, fun _ => trivial⟩
  | n + 2, _ => by
    have ih := cntTo_one q h0 (n + 1) (by omega)
    have h1 : 1 ≤ cntTo q (n + 1) := by
      have := cntTo_le q 1 (n + 1) (by omega)
      simpa [cntTo, h0] using this
    show cntTo q (n + 1) + (if q (n + 1) = true then 1 else 0) = 1 ↔ _
    constructor
    · intro h i hi hn
      split at h
      · omega
      · rename_i hq
        rcases Nat.lt_or_ge i (n + 1) with h2 | h2
        · exact ih.1 (by omega) i hi h2
        · obtain rfl : i = n + 1 := by omega
          simpa using hq
    · intro h
      rw [if_neg (by simp [h (n + 1) (by omega) (by omega)]), ih.2 fun i hi hn => h i hi (by omega)]
theorem nz_of_bad {p : Pt} (h : badP p = false) : p.nz := by
  simp only [badP, Bool.or_eq_false_iff, Bool.and_eq_false_iff, beq_eq_false_iff_ne] at h
  rintro ⟨h1, h2⟩
  rcases h.2 with h | h
  · exact h h1
  · exact h h2
def linkR (l : List Pt) (i : Nat) : Bool := decide (crossP (ptAt l i) (ptAt l ((i + 1) % l.length)) < 0)
def inR (l : List Pt) (p : Pt) (i : Nat) : Bool := btwP (ptAt l i) (ptAt l ((i + 1) % l.length)) p
/-- The reference's test of lines. -/
def linesR (l : List Pt) : Bool := decide (3 ≤ l.length) && (!l.any badP && ((List.range l.length).all (linkR l) && decide (cntTo (inR l (ptAt l 0)) l.length = 1)))
theorem part_one {a b : Pt} : (partP a b == 1) = decide (crossP a b < 0) := by
  unfold partP
  split
  · rename_i h; simp [h]
  · rename_i h
    split
    · simp; omega
    · split <;> simp <;> omega
theorem bef_first {f x : Pt} (hf : f.nz) : befP f f x = !samP f x := by
  unfold befP samP
  have e0 : partP f f = 0 := by
    unfold partP; rw [cross_self, if_neg (by omega), if_neg (by omega), if_pos (sq_pos hf)]
  rw [e0]
  rcases Int.lt_trichotomy (crossP f x) 0 with h | h | h
  · have e : partP f x = 1 := by unfold partP; rw [if_pos h]
    have h' : (crossP f x == 0) = false := by simp; omega
    rw [e, h']; rfl
  · have h' : (crossP f x == 0) = true := by simp [h]
    rw [h']
    rcases Decidable.em (0 < dotP f x) with k | k
    · have e : partP f x = 0 := by unfold partP; rw [if_neg (by omega), if_neg (by omega), if_pos k]
      rw [e, h]; simp [k]
    · have e : partP f x = 2 := by unfold partP; rw [if_neg (by omega), if_neg (by omega), if_neg k]
      rw [e]; simp [k]
  · have e : partP f x = 3 := by unfold partP; rw [if_neg (by omega), if_pos h]
    have h' : (crossP f x == 0) = false := by simp; omega
    rw [e, h']; rfl
theorem bef_not_first {f d : Pt} (hf : f.nz) : befP f d f = false := by
  unfold befP
  have e0 : partP f f = 0 := by
    unfold partP; rw [cross_self, if_neg (by omega), if_neg (by omega), if_pos (sq_pos hf)]
  rw [e0]
  split
  · unfold partP; split; · rfl
    split; · rfl
    split <;> rfl
  · rename_i h
    unfold partP at h
    rw [cross_swap]
    simp only [decide_eq_false_iff_not]
    split at h; · omega
    split at h; · omega
    omega
section
variable {l : List Pt}
theorem ptAt_nz (hb : l.any badP = false) {i : Nat} (h : i < l.length) : (ptAt l i).nz := by
  have : ptAt l i = l[i] := by simp [ptAt, h]
  rw [this]
  have hx := List.any_eq_false.1 hb l[i] (List.getElem_mem h)
  exact nz_of_bad (by simpa using hx)
theorem lines_bef (hb : l.any badP = false) (hn : 0 < l.length) (hc : ∀ i, i + 1 < l.length → befP (ptAt l 0) (ptAt l i) (ptAt l (i + 1)) = true) : ∀ i, i + 1 < l.length → befP (ptAt l 0) (ptAt l 0) (ptAt l (i + 1)) = true
  | 0, h => hc 0 h
  | i + 1, h => bef_trans (ptAt_nz hb hn) (ptAt_nz hb hn) (ptAt_nz hb (by omega)) (ptAt_nz hb h) (lines_bef hb hn hc i (by omega)) (hc (i + 1) h)
theorem lines_eq (l : List Pt) : linesR l = linesB l := by
  unfold linesR linesB
  rcases Nat.lt_or_ge l.length 3 with h3 | h3
  · have : ¬ 3 ≤ l.length := by omega
    simp [this]
  rcases Bool.eq_false_or_eq_true (l.any badP) with hb | hb
  · simp [hb]
  rw [hb]
  simp only [h3, decide_true, Bool.not_false, Bool.true_and]
  have hn : 0 < l.length := by omega
  have hf := ptAt_nz hb hn
  rw [Bool.eq_iff_iff, Bool.and_eq_true, decide_eq_true_iff, List.all_eq_true, List.all_eq_true]
  have hq0 : inR l (ptAt l 0) 0 = true := btw_same (samP_self hf)
  rw [cntTo_one _ hq0 _ hn]
  constructor
  · rintro ⟨hL, hC⟩ i hi
    have hi' := List.mem_range.1 hi
    have hcr := hL i hi
    unfold linkB
    rw [part_one]
    unfold linkR at hcr
    rw [hcr, Bool.true_and]
    rcases Nat.lt_or_ge i (l.length - 1) with h1 | h1
    case inr =>
      have h1 : l.length ≤ i + 1 := by omega
      simp [h1]
    replace h1 : i + 1 < l.length := by omega
    rw [Nat.mod_eq_of_lt h1] at hcr ⊢
    have hsam : ∀ k, 1 ≤ k → k < l.length → samP (ptAt l 0) (ptAt l k) = false := by
      intro k hk hkn
      cases hs : samP (ptAt l 0) (ptAt l k)
      · rfl
      · have h1 := hC k hk hkn
        unfold inR at h1
        rw [btw_same hs] at h1
        cases h1
    rw [bef_step hf (ptAt_nz hb hi') (ptAt_nz hb h1) (of_decide_eq_true hcr), hsam (i + 1) (by omega) h1]
    rcases Nat.eq_zero_or_pos i with rfl | h0
    · rw [samP_self hf]; simp
    · have hx := hC i h0 hi'
      unfold inR at hx
      rw [Nat.mod_eq_of_lt h1] at hx
      rw [hx]; simp
  · intro hA
    have hcr : ∀ i, i < l.length → crossP (ptAt l i) (ptAt l ((i + 1) % l.length)) < 0 := fun i hi => by
      have h := hA i (List.mem_range.2 hi)
      unfold linkB at h
      rw [part_one, Bool.and_eq_true] at h
      exact of_decide_eq_true h.1
    have hbf : ∀ i, i + 1 < l.length → befP (ptAt l 0) (ptAt l i) (ptAt l (i + 1)) = true := fun i hi => by
      have h := hA i (List.mem_range.2 (by omega))
      unfold linkB at h
      rw [Bool.and_eq_true, Bool.or_eq_true, Nat.mod_eq_of_lt hi] at h
      rcases h.2 with h | h
      · have := of_decide_eq_true h; omega
      · exact h
    refine ⟨fun i hi => decide_eq_true (hcr i (List.mem_range.1 hi)), fun i h1 hi => ?_⟩
    obtain ⟨j, rfl⟩ : ∃ j, i = j + 1 := ⟨i - 1, by omega⟩
    have hs : samP (ptAt l 0) (ptAt l (j + 1)) = false := by
      have := lines_bef hb hn hbf j hi
      rw [bef_first hf] at this
      simpa using this
    unfold inR
    rcases Nat.lt_or_ge (j + 1 + 1) l.length with h2 | h2
    · have hc := hcr (j + 1) hi
      rw [Nat.mod_eq_of_lt h2] at hc ⊢
      have h := hbf (j + 1) h2
      rw [bef_step hf (ptAt_nz hb hi) (ptAt_nz hb h2) hc, hs, Bool.false_or, Bool.and_eq_true] at h
      simpa using h.1
    · have e : j + 1 + 1 = l.length := by omega
      have hc := hcr (j + 1) hi
      rw [e, Nat.mod_self] at hc ⊢
      unfold btwP
      rw [if_neg (by omega), cross_self]
      simp
/-- What a valid board's lines keep. -/
theorem lines_link (h : linesB l = true) : 3 ≤ l.length ∧ l.any badP = false ∧ (∀ i, i < l.length → crossP (ptAt l i) (ptAt l ((i + 1) % l.length)) < 0) ∧ ∀ i, i + 1 < l.length → befP (ptAt l 0) (ptAt l i) (ptAt l (i + 1)) = true := by
  unfold linesB at h
  rw [Bool.and_eq_true, Bool.and_eq_true] at h
  obtain ⟨h3, hb, hA⟩ := h
  rw [List.all_eq_true] at hA
  refine ⟨of_decide_eq_true h3, by simpa using hb, fun i hi => ?_, fun i hi => ?_⟩
  · have h := hA i (List.mem_range.2 hi)
    unfold linkB at h
    rw [part_one, Bool.and_eq_true] at h
    exact of_decide_eq_true h.1
  · have h := hA i (List.mem_range.2 (by omega))
    unfold linkB at h
    rw [Bool.and_eq_true, Bool.or_eq_true, Nat.mod_eq_of_lt hi] at h
    rcases h.2 with h | h
    · have := of_decide_eq_true h; omega
    · exact h
theorem secUp_spec {f d : Pt} (h0 : befP f d (ptAt l 0) = false) : ∀ k, 0 < k → secUp f d l k < k ∧ befP f d (ptAt l (secUp f d l k)) = false ∧ ∀ j, secUp f d l k < j → j < k → befP f d (ptAt l j) = true
  | 1, _ => by
    have e : secUp f d l 1 = 0 := by simp [secUp]
    rw [e]
    exact ⟨by omega, h0, fun j h1 h2 => by omega⟩
  | k + 2, _ => by
    obtain ⟨i1, i2, i3⟩ := secUp_spec h0 (k + 1) (by omega)
    cases hb : befP f d (ptAt l (k + 1))
    · have e : secUp f d l (k + 2) = k + 1 := by
        show (if befP f d (ptAt l (k + 1)) = true then _ else _) = _
        rw [if_neg (by simp [hb])]
      rw [e]
      exact ⟨by omega, hb, fun j h1 h2 => by omega⟩
    · have e : secUp f d l (k + 2) = secUp f d l (k + 1) := by
        show (if befP f d (ptAt l (k + 1)) = true then _ else _) = _
        rw [if_pos hb]
      rw [e]
      refine ⟨by omega, i2, fun j h1 h2 => ?_⟩
      rcases Nat.lt_or_ge j (k + 1) with h | h
      · exact i3 j h1 h
      · obtain rfl : j = k + 1 := by omega
        exact hb
/-- A point that is not the centre is in one sector. -/
theorem sec_one (h : linesB l = true) {p : Pt} (hp : p.nz) : secB l p < l.length ∧ ∀ i, i < l.length → inR l p i = decide (i = secB l p) := by
  obtain ⟨h3, hb, hcr, hbf⟩ := lines_link h
  have hn : 0 < l.length := by omega
  have hf := ptAt_nz hb hn
  obtain ⟨s1, s2, s3⟩ := secUp_spec (l := l) (f := ptAt l 0) (d := p) (bef_not_first hf) l.length hn
  unfold secB
  generalize secUp (ptAt l 0) p l l.length = s at *
  have hmono : ∀ i j, i ≤ j → j < l.length → befP (ptAt l 0) p (ptAt l i) = true → befP (ptAt l 0) p (ptAt l j) = true := by
    intro i j hij hj hi
    induction j with
    | zero => obtain rfl : i = 0 := by omega
              exact hi
    | succ j ih =>
      rcases Nat.lt_or_ge j i with h | h
      · obtain rfl : i = j + 1 := by omega
        exact hi
      · exact bef_trans hf hp (ptAt_nz hb (by omega)) (ptAt_nz hb hj) (ih h (by omega)) (hbf j hj)
  refine ⟨s1, fun i hi => ?_⟩
  unfold inR
  rcases Nat.lt_or_ge (i + 1) l.length with h1 | h1
  · have hc := hcr i hi
    rw [Nat.mod_eq_of_lt h1] at hc ⊢
    rw [btw_bef hf (ptAt_nz hb hi) (ptAt_nz hb h1) hp hc (hbf i h1)]
    rcases Nat.lt_trichotomy i s with hlt | heq | hgt
    · have : befP (ptAt l 0) p (ptAt l (i + 1)) = false := by
        cases hx : befP (ptAt l 0) p (ptAt l (i + 1))
        · rfl
        · rw [hmono (i + 1) s (by omega) s1 hx] at s2; cases s2
      rw [this]; simp; omega
    · subst heq
      rw [s2, s3 (i + 1) (by omega) h1]; simp
    · rw [s3 i hgt hi]; simp; omega
  · have e : i + 1 = l.length := by omega
    have hc := hcr i hi
    rw [e, Nat.mod_self] at hc ⊢
    rw [btw_last hf (ptAt_nz hb hi) hp hc]
    rcases Nat.lt_trichotomy i s with hlt | heq | hgt
    · omega
    · subst heq; rw [s2]; simp
    · rw [s3 i hgt hi]; simp; omega
end
end Go.Proofs.YtlkbbcfbnbnagaaGreat
