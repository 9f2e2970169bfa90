/-
  What an argument that reads as data holds, by a shape: integers, Booleans, rows of parts, slices. Over any program.
-/
import Derived.Test.YtpifdeglhalefaaSen
import Derived.ProofKit
import Derived.ChangeArms
import Derived.OpenShut
namespace Go.Proofs.Ytpifdeglhalefaa
open Go.RowKit
inductive Shp where
  | int (k : IntKind)
  | bool
  | nil
  | pair (a b : Shp)
  | slice (n : Nat) (e : Shp)
/-- Cells are of a shape. -/
def Sat (w : World) : Shp → List Value → Prop
  | .int k, cs => ∃ n, cs = [.int k n] ∧ (Lit.int k n).wf = true
  | .bool, cs => ∃ b, cs = [.bool b]
  | .nil, cs => cs = []
  | .pair a b, cs => ∃ xs ys, cs = xs ++ ys ∧ Sat w a xs ∧ Sat w b ys
  | .slice n e, cs => ∃ a len cap, cs = [.slice a len cap] ∧ (a = none → len = 0 ∧ cap = 0) ∧ (len ≤ cap ∧ cap ≤ maxLen) ∧ ∀ i, i < len → ∃ b o xs, a = some ⟨b, o, none⟩ ∧ xs.length = n ∧ (∀ j, j < n → w.cell? ⟨b, o + (i * n + j), none⟩ = xs[j]?) ∧ Sat w e xs
def shpF (P : Program) (g : Shp → TypeId → Bool) (total : Nat) : List Field → Nat → Shp → Bool
  | [], off, .nil => decide (off = total)
  | f :: fs, off, .pair a b => decide (f.offset = off) && g a f.type && shpF P g total fs (off + P.cellsOf f.type) b
  | _, _, _ => false
def shpA (g : Shp → TypeId → Bool) (e c total : Nat) : Nat → Nat → Shp → Bool
  | 0, i, .nil => decide (i * c = total)
  | n + 1, i, .pair a b => g a e && shpA g e c total n (i + 1) b
  | _, _, _ => false
/-- A type is of a shape. -/
def shpB (P : Program) : Nat → Shp → TypeId → Bool
  | 0, _, _ => false
  | f + 1, s, t =>
    match P.underlying t with
    | some (.int k) => (match s with | .int k' => decide (k' = k) | _ => false)
    | some .bool => (match s with | .bool => true | _ => false)
    | some (.slice e) => (match s with | .slice n s' => decide (P.cellsOf e = n) && decide (0 < n) && shpB P f s' e | _ => false)
    | some (.struct fs) => shpF P (shpB P f) (P.cellsOf t) fs.toList 0 s
    | some (.array n e) => shpA (shpB P f) e (P.cellsOf e) (P.cellsOf t) n 0 s
    | _ => false
section
variable {H : Type} {enc : TypeId × Value → H} {P : Program} {w : World} {spare : Nat → Bool} {held : Bool}
theorem sat_fields {g : Shp → TypeId → Bool} {cs : List Value} {n : Nat} {fs : List Field}
    (ih : ∀ s t cs x, g s t = true → DataW.trod enc P w 0 spare held n t cs = some x → Sat w s cs) :
    ∀ (l : List Field) (i off : Nat) (s : Shp), (∀ j, l[j]? = fs[i + j]?) → (∀ (i : Nat) (f : Field), fs[i]? = some f → ∃ x, DataW.trod enc P w 0 spare held n f.type ((cs.drop f.offset).take (P.cellsOf f.type)) = some x) →
      shpF P g cs.length l off s = true → Sat w s (cs.drop off)
  | [], _, off, s, _, _, h => by
    cases s <;> simp only [shpF, Bool.false_eq_true] at h
    have : off = cs.length := by simpa using h
    subst this
    simp [Sat]
  | f :: l, i, off, s, hl, hf, h => by
    cases s <;> simp only [shpF, Bool.false_eq_true, Bool.and_eq_true, decide_eq_true_eq] at h
    rename_i a b
    obtain ⟨⟨rfl, h1⟩, h2⟩ := h
    obtain ⟨x, hx⟩ := hf i f (by have := hl 0; simpa using this.symm)
    have ha := ih a f.type _ _ h1 hx
    have hb := sat_fields ih l (i + 1) _ b (fun j => by have := hl (j + 1); rw [Nat.add_assoc, Nat.add_comm 1 j]; simpa using this) hf h2
    refine ⟨_, _, ?_, ha, hb⟩
    rw [← List.drop_drop, List.take_append_drop]
theorem sat_elems {g : Shp → TypeId → Bool} {cs : List Value} {n e c : Nat}
    (ih : ∀ s t cs x, g s t = true → DataW.trod enc P w 0 spare held n t cs = some x → Sat w s cs) :
    ∀ (m i : Nat) (s : Shp), (∀ j, i ≤ j → j < i + m → ∃ x, DataW.trod enc P w 0 spare held n e ((cs.drop (j * c)).take c) = some x) →
      shpA g e c cs.length m i s = true → Sat w s (cs.drop (i * c))
  | 0, i, s, _, h => by
    cases s <;> simp only [shpA, Bool.false_eq_true] at h
    have : i * c = cs.length := by simpa using h
    rw [this]
    simp [Sat]
  | m + 1, i, s, hf, h => by
    cases s <;> simp only [shpA, Bool.false_eq_true, Bool.and_eq_true] at h
    rename_i a b
    obtain ⟨h1, h2⟩ := h
    obtain ⟨x, hx⟩ := hf i (Nat.le_refl _) (by omega)
    have ha := ih a e _ _ h1 hx
    have hb := sat_elems ih m (i + 1) b (fun j h1 h2 => hf j (by omega) (by omega)) h2
    refine ⟨_, _, ?_, ha, hb⟩
    rw [Nat.add_mul, Nat.one_mul, ← List.drop_drop, List.take_append_drop]
theorem sat_of : ∀ (f : Nat) (s : Shp) (t : TypeId) (fuel : Nat) (cs : List Value) (x : DataW H × List MemPlace), shpB P f s t = true → DataW.trod enc P w 0 spare held fuel t cs = some x → Sat w s cs
  | 0, _, _, _, _, _, h, _ => by simp [shpB] at h
  | f + 1, s, t, fuel, cs, x, h, hx => by
    unfold shpB at h
    split at h
    · rename_i k ht
      split at h
      · have : _ = k := of_decide_eq_true h
        subst this
        obtain ⟨n, rfl, -, hw⟩ := DataW.trod_int ht hx
        exact ⟨n, rfl, hw⟩
      · cases h
    · rename_i ht
      split at h
      · obtain ⟨b, rfl, -⟩ := DataW.trod_bool ht hx
        exact ⟨b, rfl⟩
      · cases h
    · rename_i e ht
      split at h
      · rename_i n s'
        simp only [Bool.and_eq_true, decide_eq_true_eq] at h
        obtain ⟨⟨rfl, h0⟩, h1⟩ := h
        rcases DataW.trod_slice ht hx with ⟨rfl, -⟩ | ⟨a, len, cap, elems, rest, m, -, rfl, -, -, hlc, hcm, hlen, hel, -, -⟩
        · exact ⟨none, 0, 0, rfl, fun _ => ⟨rfl, rfl⟩, ⟨Nat.le_refl _, Nat.zero_le _⟩, fun i hi => absurd hi (by omega)⟩
        · refine ⟨some a, len, cap, rfl, fun h => (by cases h), ⟨hlc, hcm⟩, fun i hi => ?_⟩
          have he := hel i hi
          rw [List.getElem?_eq_getElem (by omega), Option.bind_eq_some_iff] at he
          obtain ⟨xs, hc, ht'⟩ := he
          obtain ⟨-, hl, hcell⟩ := World.cells?_some hc
          have hspot : a.spot = none := by
            have he0 := hel 0 (by omega)
            rw [List.getElem?_eq_getElem (by omega), Option.bind_eq_some_iff] at he0
            obtain ⟨ys, hc0, -⟩ := he0
            obtain ⟨-, hl0, hcell0⟩ := World.cells?_some hc0
            have hd := hcell0 0 h0
            rw [List.getElem?_eq_getElem (by omega)] at hd
            have := World.cell?_spot hd
            simpa [Addr.add] using this
          obtain ⟨b, o, sp⟩ := a
          simp only at hspot
          subst hspot
          refine ⟨b, o, xs, rfl, hl, fun j hj => ?_, sat_of f s' e m xs _ h1 ht'⟩
          have := hcell j hj
          rw [addr_add, addr_add, Nat.add_assoc] at this
          exact this
      · cases h
    · rename_i fs ht
      obtain ⟨xs, n, -, -, hl, hlen, hf⟩ := DataW.trod_struct ht hx
      rw [← hl] at h
      have := sat_fields (cs := cs) (n := n) (fs := fs.toList) (fun s t cs x => sat_of f s t n cs x) fs.toList 0 0 s (fun j => by simp) (fun i f hfi => by
        have h1 := hf i f (by simpa using hfi)
        have hlt : i < xs.length := by rw [hlen]; have := (List.getElem?_eq_some_iff.1 hfi).1; simpa using this
        rw [List.getElem?_eq_getElem hlt] at h1
        exact ⟨_, h1⟩) h
      simpa using this
    · rename_i n e ht
      obtain ⟨xs, m, -, -, hl, hlen, hf⟩ := DataW.trod_array ht hx
      rw [← hl] at h
      have := sat_elems (cs := cs) (n := m) (e := e) (c := P.cellsOf e) (fun s t cs x => sat_of f s t m cs x) n 0 s (fun j _ hj => by
        have h1 := hf j (by omega)
        rw [List.getElem?_eq_getElem (by omega)] at h1
        exact ⟨_, h1⟩) h
      simpa using this
    · cases h
theorem sat_arg {f : Nat} {s : Shp} {t : TypeId} {v : Value} {d : DataW H} {ps : List MemPlace} (hs : shpB P f s t = true) (h : DataW.Trod enc P w 0 spare held t v d ps) : Sat w s v.cells.toList := by
  obtain ⟨fuel, hf⟩ := h
  exact sat_of f s t fuel _ _ hs hf
end
theorem list_of {α : Type} {p : Nat → α → Prop} : ∀ n, (∀ i, i < n → ∃ x, p i x) → ∃ l : List α, l.length = n ∧ ∀ i, (h : i < l.length) → p i l[i]
  | 0, _ => ⟨[], rfl, fun i h => absurd h (by simp)⟩
  | n + 1, h => by
    obtain ⟨l, hl, hp⟩ := list_of n (fun i hi => h i (by omega))
    obtain ⟨x, hx⟩ := h n (by omega)
    refine ⟨l ++ [x], by simp [hl], fun i hi => ?_⟩
    by_cases hlt : i < l.length
    · rw [List.getElem_append_left hlt]; exact hp i hlt
    · have : i = n := by simp [hl] at hi; omega
      subst this
      rw [List.getElem_append_right (by omega)]
      simpa [hl] using hx
theorem i64_of_wf {x : Int} (h : (Lit.int .i64 x).wf = true) : I64 x := by
  simp [Lit.wf, IntKind.min, IntKind.max, IntKind.signed, IntKind.bits] at h
  unfold I64
  omega
/-- A slice of integers. -/
theorem sat_ints {w : World} {cs : List Value} (h : Sat w (.slice 1 (.int .i64)) cs) : ∃ a cap, ∃ l : List Int, cs = [.slice a l.length cap] ∧ (a = none → l.length = 0 ∧ cap = 0) ∧ l.length ≤ maxLen ∧ CellsAt w .i64 a l ∧ ∀ x ∈ l, I64 x := by
  obtain ⟨a, len, cap, rfl, hn, hl, h⟩ := h
  obtain ⟨l, rfl, hp⟩ := list_of (p := fun i (x : Int) => I64 x ∧ ∃ b o, a = some ⟨b, o, none⟩ ∧ w.cell? ⟨b, o + i, none⟩ = some (.int .i64 x)) len (fun i hi => by
    obtain ⟨b, o, xs, rfl, hlen, hc, n, rfl, hw⟩ := h i hi
    exact ⟨n, i64_of_wf hw, b, o, rfl, by have := hc 0 (by omega); simpa using this⟩)
  exact ⟨a, cap, l, rfl, hn, Nat.le_trans hl.1 hl.2, fun i hi => (hp i hi).2, fun x hx => by
    obtain ⟨i, hi, rfl⟩ := List.mem_iff_getElem.1 hx
    exact (hp i hi).1⟩
end Go.Proofs.Ytpifdeglhalefaa
