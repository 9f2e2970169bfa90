/-
  The statement TopFewestDarts, for every input (no condition).
-/
import Derived.Test.YtpifdeglhalefaaSen
import Derived.ProofKit
import Derived.ChangeArms
import Derived.OpenShut
import Derived.Test.YtpifdeglhalefaaRows
import Derived.Test.YtpifdeglhalefaaFde
namespace Go.Proofs.Ytpifdeglhalefaa
open Go.RowKit
inductive Shp where
  | int (k : IntKind)
  | bool
  | nil
  | pair (a b : Shp)
  | slice (n : Nat) (e : Shp)
/-- Cells are of a shape. -/
def Sat (w : World) : Shp → List Value → Prop
  | .int k, cs => ∃ n, cs = [.int k n] ∧ (Lit.int k n).wf = true
  | .bool, cs => ∃ b, cs = [.bool b]
  | .nil, cs => cs = []
  | .pair a b, cs => ∃ xs ys, cs = xs ++ ys ∧ Sat w a xs ∧ Sat w b ys
  | .slice n e, cs => ∃ a len cap, cs = [.slice a len cap] ∧ (a = none → len = 0 ∧ cap = 0) ∧ (len ≤ cap ∧ cap ≤ maxLen) ∧ ∀ i, i < len → ∃ b o xs, a = some ⟨b, o, none⟩ ∧ xs.length = n ∧ (∀ j, j < n → w.cell? ⟨b, o + (i * n + j), none⟩ = xs[j]?) ∧ Sat w e xs
def shpF (P : Program) (g : Shp → TypeId → Bool) (total : Nat) : List Field → Nat → Shp → Bool
  | [], off, .nil => decide (off = total)
  | f :: fs, off, .pair a b => decide (f.offset = off) && g a f.type && shpF P g total fs (off + P.cellsOf f.type) b
  | _, _, _ => false
def shpA (g : Shp → TypeId → Bool) (e c total : Nat) : Nat → Nat → Shp → Bool
  | 0, i, .nil => decide (i * c = total)
  | n + 1, i, .pair a b => g a e && shpA g e c total n (i + 1) b
  | _, _, _ => false
/-- A type is of a shape. -/
def shpB (P : Program) : Nat → Shp → TypeId → Bool
  | 0, _, _ => false
  | f + 1, s, t =>
    match P.underlying t with
    | some (.int k) => (match s with | .int k' => decide (k' = k) | _ => false)
    | some .bool => (match s with | .bool => true | _ => false)
    | some (.slice e) => (match s with | .slice n s' => decide (P.cellsOf e = n) && decide (0 < n) && shpB P f s' e | _ => false)
    | some (.struct fs) => shpF P (shpB P f) (P.cellsOf t) fs.toList 0 s
    | some (.array n e) => shpA (shpB P f) e (P.cellsOf e) (P.cellsOf t) n 0 s
    | _ => false
section
variable {H : Type} {enc : TypeId × Value → H} {P : Program} {w : World} {spare : Nat → Bool} {held : Bool}
theorem sat_fields {g : Shp → TypeId → Bool} {cs : List Value} {n : Nat} {fs : List Field}
    (ih : ∀ s t cs x, g s t = true → DataW.trod enc P w 0 spare held n t cs = some x → Sat w s cs) :
    ∀ (l : List Field) (i off : Nat) (s : Shp), (∀ j, l[j]? = fs[i + j]?) → (∀ (i : Nat) (f : Field), fs[i]? = some f → ∃ x, DataW.trod enc P w 0 spare held n f.type ((cs.drop f.offset).take (P.cellsOf f.type)) = some x) →
      shpF P g cs.length l off s = true → Sat w s (cs.drop off)
  | [], _, off, s, _, _, h => by
    cases s <;> simp only [shpF, Bool.false_eq_true] at h
    have : off = cs.length := by simpa using h
    subst this
    simp [Sat]
  | f :: l, i, off, s, hl, hf, h => by
    cases s <;> simp only [shpF, Bool.false_eq_true, Bool.and_eq_true, decide_eq_true_eq] at h
    rename_i a b
    obtain ⟨⟨rfl, h1⟩, h2⟩ := h
    obtain ⟨x, hx⟩ := hf i f (by have := hl 0; simpa using this.symm)
    have ha := ih a f.type _ _ h1 hx
    have hb := sat_fields ih l (i + 1) _ b (fun j => by have := hl (j + 1); rw [Nat.add_assoc, Nat.add_comm 1 j]; simpa using this) hf h2
    refine ⟨_, _, ?_, ha, hb⟩
    rw [← List.drop_drop, List.take_append_drop]
theorem sat_elems {g : Shp → TypeId → Bool} {cs : List Value} {n e c : Nat}
    (ih : ∀ s t cs x, g s t = true → DataW.trod enc P w 0 spare held n t cs = some x → Sat w s cs) :
    ∀ (m i : Nat) (s : Shp), (∀ j, i ≤ j → j < i + m → ∃ x, DataW.trod enc P w 0 spare held n e ((cs.drop (j * c)).take c) = some x) →
      shpA g e c cs.length m i s = true → Sat w s (cs.drop (i * c))
  | 0, i, s, _, h => by
    cases s <;> simp only [shpA, Bool.false_eq_true] at h
    have : i * c = cs.length := by simpa using h
    rw [this]
    simp [Sat]
  | m + 1, i, s, hf, h => by
    cases s <;> simp only [shpA, Bool.false_eq_true, Bool.and_eq_true] at h
    rename_i a b
    obtain ⟨h1, h2⟩ := h
    obtain ⟨x, hx⟩ := hf i (Nat.le_refl _) (by omega)
    have ha := ih a e _ _ h1 hx
    have hb := sat_elems ih m (i + 1) b (fun j h1 h2 => hf j (by omega) (by omega)) h2
    refine ⟨_, _, ?_, ha, hb⟩
    rw [Nat.add_mul, Nat.one_mul, ← List.drop_drop, List.take_append_drop]
theorem sat_of : ∀ (f : Nat) (s : Shp) (t : TypeId) (fuel : Nat) (cs : List Value) (x : DataW H × List MemPlace), shpB P f s t = true → DataW.trod enc P w 0 spare held fuel t cs = some x → Sat w s cs
  | 0, _, _, _, _, _, h, _ => by simp [shpB] at h
  | f + 1, s, t, fuel, cs, x, h, hx => by
    unfold shpB at h
    split at h
    · rename_i k ht
      split at h
      · have : _ = k := of_decide_eq_true h
        subst this
        obtain ⟨n, rfl, -, hw⟩ := DataW.trod_int ht hx
        exact ⟨n, rfl, hw⟩
      · cases h
    · rename_i ht
      split at h
      · obtain ⟨b, rfl, -⟩ := DataW.trod_bool ht hx
        exact ⟨b, rfl⟩
      · cases h
    · rename_i e ht
      split at h
      · rename_i n s'
        simp only [Bool.and_eq_true, decide_eq_true_eq] at h
        obtain ⟨⟨rfl, h0⟩, h1⟩ := h
        rcases DataW.trod_slice ht hx with ⟨rfl, -⟩ | ⟨a, len, cap, elems, rest, m, -, rfl, -, -, hlc, hcm, hlen, hel, -, -⟩
        · exact ⟨none, 0, 0, rfl, fun _ => ⟨rfl, rfl⟩, ⟨Nat.le_refl _, Nat.zero_le _⟩, fun i hi => absurd hi (by omega)⟩
        · refine ⟨some a, len, cap, rfl, fun h => (by cases h), ⟨hlc, hcm⟩, fun i hi => ?_⟩
          have he := hel i hi
          rw [List.getElem?_eq_getElem (by omega), Option.bind_eq_some_iff] at he
          obtain ⟨xs, hc, ht'⟩ := he
          obtain ⟨-, hl, hcell⟩ := World.cells?_some hc
          have hspot : a.spot = none := by
            have he0 := hel 0 (by omega)
            rw [List.getElem?_eq_getElem (by omega), Option.bind_eq_some_iff] at he0
            obtain ⟨ys, hc0, -⟩ := he0
            obtain ⟨-, hl0, hcell0⟩ := World.cells?_some hc0
            have hd := hcell0 0 h0
            rw [List.getElem?_eq_getElem (by omega)] at hd
            have := World.cell?_spot hd
            simpa [Addr.add] using this
          obtain ⟨b, o, sp⟩ := a
          simp only at hspot
          subst hspot
          refine ⟨b, o, xs, rfl, hl, fun j hj => ?_, sat_of f s' e m xs _ h1 ht'⟩
          have := hcell j hj
          rw [addr_add, addr_add, Nat.add_assoc] at this
          exact this
      · cases h
    · rename_i fs ht
      obtain ⟨xs, n, -, -, hl, hlen, hf⟩ := DataW.trod_struct ht hx
      rw [← hl] at h
      have := sat_fields (cs := cs) (n := n) (fs := fs.toList) (fun s t cs x => sat_of f s t n cs x) fs.toList 0 0 s (fun j => by simp) (fun i f hfi => by
        have h1 := hf i f (by simpa using hfi)
        have hlt : i < xs.length := by rw [hlen]; have := (List.getElem?_eq_some_iff.1 hfi).1; simpa using this
        rw [List.getElem?_eq_getElem hlt] at h1
        exact ⟨_, h1⟩) h
      simpa using this
    · rename_i n e ht
      obtain ⟨xs, m, -, -, hl, hlen, hf⟩ := DataW.trod_array ht hx
      rw [← hl] at h
      have := sat_elems (cs := cs) (n := m) (e := e) (c := P.cellsOf e) (fun s t cs x => sat_of f s t m cs x) n 0 s (fun j _ hj => by
        have h1 := hf j (by omega)
        rw [List.getElem?_eq_getElem (by omega)] at h1
        exact ⟨_, h1⟩) h
      simpa using this
    · cases h
theorem sat_arg {f : Nat} {s : Shp} {t : TypeId} {v : Value} {d : DataW H} {ps : List MemPlace} (hs : shpB P f s t = true) (h : DataW.Trod enc P w 0 spare held t v d ps) : Sat w s v.cells.toList := by
  obtain ⟨fuel, hf⟩ := h
  exact sat_of f s t fuel _ _ hs hf
end
theorem list_of {α : Type} {p : Nat → α → Prop} : ∀ n, (∀ i, i < n → ∃ x, p i x) → ∃ l : List α, l.length = n ∧ ∀ i, (h : i < l.length) → p i l[i]
  | 0, _ => ⟨[], rfl, fun i h => absurd h (by simp)⟩
  | n + 1, h => by
    obtain ⟨l, hl, hp⟩ := list_of n (fun i hi => h i (by omega))
    obtain ⟨x, hx⟩ := h n (by omega)
    refine ⟨l ++ [x], by simp [hl], fun i hi => ?_⟩
    by_cases hlt : i < l.length
    · rw [List.getElem_append_left hlt]; exact hp i hlt
    · have : i = n := by simp [hl] at hi; omega
      subst this
      rw [List.getElem_append_right (by omega)]
      simpa [hl] using hx
theorem i64_of_wf {x : Int} (h : (Lit.int .i64 x).wf = true) : I64 x := by
  simp [Lit.wf, IntKind.min, IntKind.max, IntKind.signed, IntKind.bits] at h
  unfold I64
  omega
/-- A slice of integers. -/
theorem sat_ints {w : World} {cs : List Value} (h : Sat w (.slice 1 (.int .i64)) cs) : ∃ a cap, ∃ l : List Int, cs = [.slice a l.length cap] ∧ (a = none → l.length = 0 ∧ cap = 0) ∧ l.length ≤ maxLen ∧ CellsAt w .i64 a l ∧ ∀ x ∈ l, I64 x := by
  obtain ⟨a, len, cap, rfl, hn, hl, h⟩ := h
  obtain ⟨l, rfl, hp⟩ := list_of (p := fun i (x : Int) => I64 x ∧ ∃ b o, a = some ⟨b, o, none⟩ ∧ w.cell? ⟨b, o + i, none⟩ = some (.int .i64 x)) len (fun i hi => by
    obtain ⟨b, o, xs, rfl, hlen, hc, n, rfl, hw⟩ := h i hi
    exact ⟨n, i64_of_wf hw, b, o, rfl, by have := hc 0 (by omega); simpa using this⟩)
  exact ⟨a, cap, l, rfl, hn, Nat.le_trans hl.1 hl.2, fun i hi => (hp i hi).2, fun x hx => by
    obtain ⟨i, hi, rfl⟩ := List.mem_iff_getElem.1 hx
    exact (hp i hi).1⟩
end Go.Proofs.Ytpifdeglhalefaa
namespace Go.Proofs.Ytpifdeglhalefaa
open Go.RowKit
theorem u16_of_wf {x : Int} (h : (Lit.int .u16 x).wf = true) : 0 ≤ x ∧ x ≤ 65535 := by
  simp [Lit.wf, IntKind.min, IntKind.max, IntKind.signed, IntKind.bits] at h
  omega
theorem u8_of_wf {x : Int} (h : (Lit.int .u8 x).wf = true) : 0 ≤ x ∧ x ≤ 255 := by
  simp [Lit.wf, IntKind.min, IntKind.max, IntKind.signed, IntKind.bits] at h
  omega
/-- A slice of integers of a kind. -/
theorem sat_kind {w : World} {k : IntKind} {cs : List Value} (h : Sat w (.slice 1 (.int k)) cs) : ∃ a cap, ∃ l : List Int, cs = [.slice a l.length cap] ∧ (a = none → l.length = 0 ∧ cap = 0) ∧ l.length ≤ maxLen ∧ CellsAt w k a l ∧ ∀ x ∈ l, (Lit.int k x).wf = true := by
  obtain ⟨a, len, cap, rfl, hn, hl, h⟩ := h
  obtain ⟨l, rfl, hp⟩ := list_of (p := fun i (x : Int) => (Lit.int k x).wf = true ∧ ∃ b o, a = some ⟨b, o, none⟩ ∧ w.cell? ⟨b, o + i, none⟩ = some (.int k x)) len (fun i hi => by
    obtain ⟨b, o, xs, rfl, hlen, hc, n, rfl, hw⟩ := h i hi
    exact ⟨n, hw, b, o, rfl, by have := hc 0 (by omega); simpa using this⟩)
  exact ⟨a, cap, l, rfl, hn, Nat.le_trans hl.1 hl.2, fun i hi => (hp i hi).2, fun x hx => by
    obtain ⟨i, hi, rfl⟩ := List.mem_iff_getElem.1 hx
    exact (hp i hi).1⟩
theorem sat_u16 {w : World} {cs : List Value} (h : Sat w (.slice 1 (.int .u16)) cs) : ∃ a cap, ∃ l : List Int, cs = [.slice a l.length cap] ∧ (a = none → l.length = 0 ∧ cap = 0) ∧ l.length ≤ maxLen ∧ CellsAt w .u16 a l ∧ ∀ x ∈ l, 0 ≤ x ∧ x ≤ 65535 :=
  let ⟨a, cap, l, h1, h2, h3, h4, h5⟩ := sat_kind h; ⟨a, cap, l, h1, h2, h3, h4, fun x hx => u16_of_wf (h5 x hx)⟩
theorem sat_u8 {w : World} {cs : List Value} (h : Sat w (.slice 1 (.int .u8)) cs) : ∃ a cap, ∃ l : List Int, cs = [.slice a l.length cap] ∧ (a = none → l.length = 0 ∧ cap = 0) ∧ l.length ≤ maxLen ∧ CellsAt w .u8 a l ∧ ∀ x ∈ l, 0 ≤ x ∧ x ≤ 255 :=
  let ⟨a, cap, l, h1, h2, h3, h4, h5⟩ := sat_kind h; ⟨a, cap, l, h1, h2, h3, h4, fun x hx => u8_of_wf (h5 x hx)⟩
end Go.Proofs.Ytpifdeglhalefaa
namespace Go.Proofs.Ytpifdeglhalefaa.topFewestDartsDone
open Go.ChangeShapes Go.WideShapes Go.ChangeAt Go.RowKit
theorem law_TopFewestDarts (l h : List Int) (a ha : Option Addr) (c hc : Nat) (x0 x1 x2 : Int) (w : World) (hla : CellsAt w .u8 a l) (hl : l.length ≤ 9223372036854775807) (hr : ∀ x ∈ l, 0 ≤ x ∧ x ≤ 255) (hlh : CellsAt w .u8 ha h) (hhl : h.length ≤ 9223372036854775807) (hhr : ∀ x ∈ h, 0 ≤ x ∧ x ≤ 255) (hx0 : 0 ≤ x0 ∧ x0 ≤ 255) (hx1 : 0 ≤ x1 ∧ x1 ≤ 255) (hx2 : 0 ≤ x2 ∧ x2 ≤ 255) :
    Calls Try.prog 4 #[.slice a l.length c, .slice ha h.length hc, .agg #[.int .u8 x0, .int .u8 x1, .int .u8 x2]] w fun e w' => e = .returned (.bool true) ∧ Ext w w' := by
  obtain ⟨n0, rfl⟩ := Int.eq_ofNat_of_zero_le hx0.1
  obtain ⟨n1, rfl⟩ := Int.eq_ofNat_of_zero_le hx1.1
  obtain ⟨n2, rfl⟩ := Int.eq_ofNat_of_zero_le hx2.1
  exact fewest_darts l h a ha c hc n0 n1 n2 w hla hl hr hlh hhl hhr (by omega) (by omega)
theorem okWide_array {P : Program} {r : Reach} {w : World} {base : Nat} {t : TypeId} {v : Value} {n : Nat} {e : TypeId} (ht : P.underlying t = some (.array n e)) (h : Value.okWide P w r base t v) : ∃ cs, v = .agg cs ∧ cs.size = P.cellsOf t := by
  simp only [Value.okWide, ht] at h
  obtain ⟨cs, h1, h2, _⟩ := h
  exact ⟨cs, h1, h2⟩
theorem own : ownKnob Try.prog.godebug = none := by kernel_rfl
theorem laidOut : laidOutB Try.prog = true := by kernel_rfl
set_option maxRecDepth 100000 in
set_option maxHeartbeats 2000000 in
theorem lifted (os : Os) (started : os.Started) (H : Type) (enc : TypeId × Value → H) :
    ReturnsInHanded {} Try.checked os 4 .any (Rows.topFewestDartsSpec.pre6 enc Try.prog Try.f4 Rows.topFewestDartsRow.domain false) (Rows.topFewestDartsSpec.post enc Try.prog Try.f4 false true false false) := by
  refine returnsInHanded_of_change (C := Try.checked) own started (by kernel_rfl) Try.func4
    (ChangeSpec.witness6 (enc := enc) (C := Try.checked) false ⟨#[], #[.slice none 0 0, .slice none 0 0, .agg #[.int .u8 0, .int .u8 0, .int .u8 0]], []⟩ 8 (by kernel_rfl) (by kernel_rfl) (by kernel_rfl) (by kernel_rfl)) ?_
  intro W base args ds gs before hval0 hW hcnd _
  have hval : ∀ (j : Nat) t v, Try.f4.params[j]? = some t → args[j]? = some v → Value.okWide Try.prog W .any base t v := hval0
  have hW' := hW
  obtain ⟨p, q, hA0, hV, rfl, hfz, hnd⟩ := hW
  have hA : DataW.TrodAll enc Try.prog W 0 (fun _ => true) true Try.f4.params.toList args.toList ds p := hA0
  rw [Try.params4] at hA hval
  obtain ⟨v0, vs0, d0, ds0, p0, q0, hargs, rfl, rfl, h0, r0⟩ := trodAll_cons hA
  obtain ⟨v1, vs1, d1, ds1, p1, q1, rfl, rfl, rfl, h1, r1⟩ := trodAll_cons r0
  obtain ⟨v2, vs2, d2, ds2, p2, q2, rfl, rfl, rfl, h2, r2⟩ := trodAll_cons r1
  obtain ⟨rfl, rfl, rfl⟩ := trodAll_nil r2
  obtain rfl : args = #[v0, v1, v2] := by cases args; simp_all
  obtain ⟨rfl, rfl⟩ := trodVars_none hV
  have k0 := h0
  have lt0 : ∀ x ∈ p0, x.block < W.heap.size := by obtain ⟨m, hm⟩ := h0; exact DataW.trod_lt m _ _ _ hm
  have s0 := sat_arg (f := 9) (s := .slice 1 (.int .u8)) (by kernel_rfl) h0
  obtain ⟨a_y, len0, c_y, rfl⟩ := okWide_slice Try.underlying50 (hval 0 50 v0 rfl rfl)
  obtain ⟨a0', c0', l_y, e0, n_y, m_y, h_y, i_y⟩ := sat_u8 s0
  obtain ⟨rfl, rfl, rfl⟩ : a_y = a0' ∧ len0 = l_y.length ∧ c_y = c0' := by simpa [Value.cells] using e0
  have k1 := h1
  have lt1 : ∀ x ∈ p1, x.block < W.heap.size := by obtain ⟨m, hm⟩ := h1; exact DataW.trod_lt m _ _ _ hm
  have s1 := sat_arg (f := 9) (s := .slice 1 (.int .u8)) (by kernel_rfl) h1
  obtain ⟨a_h, len1, c_h, rfl⟩ := okWide_slice Try.underlying50 (hval 1 50 v1 rfl rfl)
  obtain ⟨a1', c1', l_h, e1, n_h, m_h, h_h, i_h⟩ := sat_u8 s1
  obtain ⟨rfl, rfl, rfl⟩ : a_h = a1' ∧ len1 = l_h.length ∧ c_h = c1' := by simpa [Value.cells] using e1
  have k2 := h2
  have lt2 : ∀ x ∈ p2, x.block < W.heap.size := by obtain ⟨m, hm⟩ := h2; exact DataW.trod_lt m _ _ _ hm
  have s2 := sat_arg (f := 9) (s := .pair (.int .u8) (.pair (.int .u8) (.pair (.int .u8) (.nil)))) (by kernel_rfl) h2
  obtain ⟨cs2, rfl, hcs2⟩ := okWide_array Try.underlying51 (hval 2 51 v2 rfl rfl)
  obtain ⟨_, _, e2, ⟨x0, rfl, w0⟩, _, _, rfl, ⟨x1, rfl, w1⟩, _, _, rfl, ⟨x2, rfl, w2⟩, rfl⟩ := s2
  obtain rfl : cs2 = #[.int .u8 x0, .int .u8 x1, .int .u8 x2] := by
    have : (Value.agg cs2).cells.toList = cs2.toList := rfl
    rw [this] at e2
    cases cs2; simpa using e2
  clear hA0 hval0
  refine (law_TopFewestDarts l_y l_h a_y a_h c_y c_h x0 x1 x2 W h_y (by unfold maxLen at m_y; omega) i_y h_h (by unfold maxLen at m_h; omega) i_h (u8_of_wf w0) (u8_of_wf w1) (u8_of_wf w2)).mono fun e W' ⟨he, bel⟩ => ?_
  subst he
  exact ⟨_, rfl, _, _, _, [], _, [], hW', trodAll_mk1 (shut_bool Try.underlying4 _), (trodAll_cons_mk (Below.trod laidOut (by kernel_rfl) (of_decide_eq_true (by kernel_rfl)) k0 bel lt0) (trodAll_cons_mk (Below.trod laidOut (by kernel_rfl) (of_decide_eq_true (by kernel_rfl)) k1 bel lt1) (trodAll_cons_mk (Below.trod laidOut (by kernel_rfl) (of_decide_eq_true (by kernel_rfl)) k2 bel lt2) trodAll_mk0))), rfl, Below.frame bel _, fun h => by cases h⟩
theorem over : Rows.topFewestDartsRow.holds Try.pinned (OpenSpec.ofChange Rows.topFewestDartsSpec) :=
  OpenClaim.holds_of_wide 4 Try.f4 rfl rfl rfl rfl rfl rfl rfl ⟨rfl, rfl, rfl, rfl, rfl⟩ rfl rfl rfl rfl rfl (by kernel_rfl) Try.func4 (by kernel_rfl)
    (of_decide_eq_true (by kernel_rfl)) (by unfold Func.isWrapper; first | (rw [if_pos (by decide +kernel)]; kernel_rfl) | (rw [if_neg (by decide +kernel)]; exact ⟨rfl, rfl⟩))
    (fun os started H enc _ => lifted os started H enc)
/-- The statement. -/
theorem proved : Rows.TopFewestDartsSaid := over
#print axioms proved
end Go.Proofs.Ytpifdeglhalefaa.topFewestDartsDone
