/-
  Package out: Ways, where there are some and not too many.
-/
import Derived.Test.YtpifdeglhalefaaOuc
import Derived.Test.YtpifdeglhalefaaOut
import Derived.Test.YtpifdeglhalefaaOul
namespace Go.Proofs.Ytpifdeglhalefaa
open Go.RowKit
def cntO (l : List Int) (t : List (Int × Int)) : Int := (t.map fun p => l.getD p.2.toNat 0).sum
theorem cntO_bnd {l : List Int} {M : Int} (h : ∀ s : Nat, 0 ≤ l.getD s 0 ∧ l.getD s 0 ≤ M) : ∀ t : List (Int × Int), 0 ≤ cntO l t ∧ cntO l t ≤ t.length * M
  | [] => by simp [cntO]
  | p :: t => by
    have h1 := cntO_bnd h t
    have h2 := h p.2.toNat
    unfold cntO at h1 ⊢
    rw [List.map_cons, List.sum_cons, List.length_cons]
    push_cast
    rw [Int.add_mul]
    omega
theorem sumL_cnt {l : List Int} {M : Int} (h : ∀ s : Nat, 0 ≤ l.getD s 0 ∧ l.getD s 0 ≤ M) : ∀ (t : List (Int × Int)) (a : Int), 0 ≤ a → a + t.length * M ≤ 9223372036854775807 → sumL l t a = a + cntO l t
  | [], a, _, _ => by simp [sumL, cntO]
  | p :: t, a, h0, h1 => by
    have h2 := h p.2.toNat
    rw [List.length_cons] at h1
    push_cast at h1
    rw [Int.add_mul] at h1
    have h3 : 0 ≤ (t.length : Int) * M := Int.mul_nonneg (by omega) (by omega)
    show sumL l t (wrap64 (a + l.getD p.2.toNat 0)) = _
    rw [wrap64_in' ⟨by omega, by omega⟩, sumL_cnt h t _ (by omega) (by omega)]
    unfold cntO
    rw [List.map_cons, List.sum_cons]
    omega
theorem thwO_len (g : Int) (beds : List Int) (s : Int) : (thwO g beds s).length ≤ beds.length := by
  unfold thwO
  rw [List.length_map]
  exact List.length_filter_le _ _
def pwO : Nat → Int
  | 0 => 1
  | k + 1 => 82 * pwO k
theorem pwO_pos : ∀ k, 0 < pwO k
  | 0 => by decide
  | k + 1 => by have := pwO_pos k; unfold pwO; omega
theorem pwO_mono {j k : Nat} (h : j ≤ k) : pwO j ≤ pwO k := by
  induction h with
  | refl => exact Int.le_refl _
  | @step m h ih =>
    have := pwO_pos m
    show pwO j ≤ 82 * pwO m
    omega
theorem rwO_bnd {g : Int} {beds : List Int} {most : Nat} (hl : beds.length ≤ 82) : ∀ (k : Nat) (s : Nat), k ≤ 9 → (0 ≤ (rwO g beds most k).getD s 0 ∧ (rwO g beds most k).getD s 0 ≤ pwO k)
  | 0, s, _ => by
    unfold rwO pwO
    cases s with
    | zero => simp
    | succ s =>
      rw [List.getD_cons_succ, List.getD_eq_getElem?_getD, List.getElem?_replicate]
      split <;> simp
  | k + 1, s, hk => by
    have IH := fun s => rwO_bnd (g := g) (most := most) hl k s (by omega)
    have hp := pwO_mono (show k + 1 ≤ 9 from hk)
    have hp9 : pwO 9 = 167619550409708032 := by decide
    show 0 ≤ (rowO g beds (rwO g beds most k)).getD s 0 ∧ (rowO g beds (rwO g beds most k)).getD s 0 ≤ 82 * pwO k
    rw [List.getD_eq_getElem?_getD]
    unfold rowO
    by_cases hs : s < (rwO g beds most k).length
    · have hq : (thwO g beds (s : Int)).length ≤ 82 := Nat.le_trans (thwO_len g beds _) hl
      have hpos := pwO_pos k
      have hm : ((thwO g beds (s : Int)).length : Int) * pwO k ≤ 82 * pwO k := Int.mul_le_mul_of_nonneg_right (by omega) (by omega)
      have e : 82 * pwO k = pwO (k + 1) := rfl
      have h := sumL_cnt IH (thwO g beds (s : Int)) 0 (by omega) (by omega)
      have h2 := cntO_bnd IH (thwO g beds (s : Int))
      simp only [List.getElem?_map, List.getElem?_range hs, Option.map_some, Option.getD_some]
      rw [h]
      omega
    · simp only [List.getElem?_map]
      rw [List.getElem?_eq_none (by simpa using hs)]
      have := pwO_pos k
      simp
      omega
theorem rwO_succ {g : Int} {beds : List Int} {most : Nat} (hl : beds.length ≤ 82) {k s : Nat} (hk : k + 1 ≤ 9) (hs : s ≤ most) : (rwO g beds most (k + 1)).getD s 0 = cntO (rwO g beds most k) (thwO g beds s) := by
  have IH := fun s => rwO_bnd (g := g) (most := most) hl k s (by omega)
  have hp := pwO_mono hk
  have hp9 : pwO 9 = 167619550409708032 := by decide
  have hq : (thwO g beds (s : Int)).length ≤ 82 := Nat.le_trans (thwO_len g beds _) hl
  have hpos := pwO_pos k
  have hm : ((thwO g beds (s : Int)).length : Int) * pwO k ≤ 82 * pwO k := Int.mul_le_mul_of_nonneg_right (by omega) (by omega)
  have e : 82 * pwO k = pwO (k + 1) := rfl
  have h := sumL_cnt IH (thwO g beds (s : Int)) 0 (by omega) (by omega)
  show (rowO g beds (rwO g beds most k)).getD s 0 = _
  rw [List.getD_eq_getElem?_getD]
  unfold rowO
  have hs' : s < (rwO g beds most k).length := by rw [rwO_len]; omega
  simp only [List.getElem?_map, List.getElem?_range hs', Option.map_some, Option.getD_some]
  rw [h]
  omega
theorem rwsO_at {g : Int} {beds : List Int} {most darts k : Nat} (h : k ≤ darts) : (rwsO g beds most darts).getD k [] = rwO g beds most k := by
  unfold rwsO
  rw [List.getD_eq_getElem?_getD, List.getElem?_map, List.getElem?_range (by omega)]
  rfl
/-- The ways from a score, if there are any. -/
def wyL (g : Int) (beds : List Int) (most darts k : Nat) (s : Int) (first : List Int) : List (List Int) := if 0 < (rwO g beds most k).getD s.toNat 0 then wayO g beds (rwsO g beds most darts) k s first else []
theorem wyL_len {g : Int} {beds : List Int} {most darts : Nat} (hl : beds.length ≤ 82) (hw : ∀ x ∈ beds, 1 ≤ wrt x) (hd : darts ≤ 9) : ∀ (k s : Nat) (first : List Int), k ≤ darts → s ≤ most → ((wyL g beds most darts k s first).length : Int) = (rwO g beds most k).getD s 0
  | 0, s, first, _, hs => by
    unfold wyL rwO
    cases s with
    | zero => simp [wayO]
    | succ s =>
      have e : ((1 : Int) :: List.replicate most 0).getD (s + 1) 0 = 0 := by
        rw [List.getD_cons_succ, List.getD_eq_getElem?_getD, List.getElem?_replicate]
        split <;> rfl
      rw [Int.toNat_natCast, e]
      simp
  | k + 1, s, first, hk, hs => by
    have hb := rwO_bnd (g := g) (most := most) hl (k + 1) s (by omega)
    have hsu := rwO_succ (g := g) (beds := beds) (most := most) (k := k) (s := s) hl (by omega) hs
    have key : ((wayO g beds (rwsO g beds most darts) (k + 1) s first).length : Int) = cntO (rwO g beds most k) (thwO g beds s) := by
      have hall : ∀ t : List (Int × Int), (∀ p ∈ t, p ∈ thwO g beds s) → ((t.flatMap fun p => if 0 < ((rwsO g beds most darts).getD k []).getD p.2.toNat 0 then wayO g beds (rwsO g beds most darts) k p.2 (first ++ [p.1]) else []).length : Int) = cntO (rwO g beds most k) t := by
        intro t
        induction t with
        | nil => intro _; rfl
        | cons p t ih =>
          intro h
          have hp := h p (by simp)
          have h1 := ih (fun q hq => h q (by simp [hq]))
          obtain ⟨x, hx, rfl⟩ := List.mem_map.1 hp
          obtain ⟨hx1, hx2⟩ := List.mem_filter.1 hx
          have hw1 := hw x hx1
          simp only [Bool.and_eq_true, decide_eq_true_eq] at hx2
          have h0 : 0 ≤ (s : Int) - wrt x := by
            have h3 := hx2.1
            unfold aftB at h3
            split at h3
            · omega
            · split at h3
              · omega
              · simp at h3; omega
          obtain ⟨q, hq⟩ := Int.eq_ofNat_of_zero_le h0
          have h2 := wyL_len (g := g) (most := most) hl hw hd k q (first ++ [x]) (by omega) (by omega)
          unfold cntO at h1 ⊢
          rw [List.flatMap_cons, List.length_append, List.map_cons, List.sum_cons]
          push_cast
          rw [h1]
          unfold wyL at h2
          rw [Int.toNat_natCast] at h2
          rw [rwsO_at (by omega)]
          simp only [hq, Int.toNat_natCast]
          rw [h2]
      have := hall (thwO g beds s) (fun p hp => hp)
      exact this
    unfold wyL
    rw [Int.toNat_natCast, hsu]
    rw [hsu] at hb
    by_cases h : 0 < cntO (rwO g beds most k) (thwO g beds s)
    · rw [if_pos h, key]
    · rw [if_neg h]
      simp
      omega
/-- How many ways out there are. -/
theorem allO_len {g : Int} {beds : List Int} {most darts : Nat} (hl : beds.length ≤ 82) (hw : ∀ x ∈ beds, 1 ≤ wrt x) (hd : darts ≤ 9) {s : Nat} (hs : s ≤ most) : ((allO g beds (rwsO g beds most darts) darts s).length : Int) = totO (rwsO g beds most darts) s ∧ 0 ≤ totO (rwsO g beds most darts) s := by
  have hdrop : (rwsO g beds most darts).drop 1 = (List.range darts).map fun k => rwO g beds most (k + 1) := by
    unfold rwsO
    rw [List.range_succ_eq_map, List.map_cons, List.drop_one, List.tail_cons, List.map_map]
    rfl
  have hp9 : pwO 9 = 167619550409708032 := by decide
  have hall : ∀ d, d ≤ darts → ((((List.range d).flatMap fun k => if 0 < ((rwsO g beds most darts).getD (k + 1) []).getD s 0 then wayO g beds (rwsO g beds most darts) (k + 1) s [] else []).length : Int) = ((List.range d).map fun k => rwO g beds most (k + 1)).foldl (fun a r => wrap64 (a + r.getD s 0)) 0 ∧ 0 ≤ ((List.range d).map fun k => rwO g beds most (k + 1)).foldl (fun a r => wrap64 (a + r.getD s 0)) 0 ∧ ((List.range d).map fun k => rwO g beds most (k + 1)).foldl (fun a r => wrap64 (a + r.getD s 0)) 0 ≤ d * 167619550409708032) := by
    intro d
    induction d with
    | zero => intro _; simp
    | succ d ih =>
      intro h
      obtain ⟨h1, h2, h3⟩ := ih (by omega)
      have h4 := wyL_len (g := g) (most := most) hl hw hd (d + 1) s [] (by omega) hs
      have h5 := rwO_bnd (g := g) (most := most) hl (d + 1) s (by omega)
      have h6 := pwO_mono (show d + 1 ≤ 9 by omega)
      unfold wyL at h4
      rw [Int.toNat_natCast] at h4
      rw [List.range_succ, List.flatMap_append, List.map_append, List.foldl_append, List.length_append]
      simp only [List.flatMap_cons, List.flatMap_nil, List.append_nil, List.map_cons, List.map_nil, List.foldl_cons, List.foldl_nil]
      rw [rwsO_at (by omega)]
      push_cast
      rw [h1, h4, wrap64_in' ⟨by omega, by omega⟩]
      exact ⟨rfl, by omega, by omega⟩
  unfold totO allO
  rw [hdrop]
  exact ⟨(hall darts (Nat.le_refl _)).1, (hall darts (Nat.le_refl _)).2.1⟩
end Go.Proofs.Ytpifdeglhalefaa
namespace Go.Proofs.Ytpifdeglhalefaa
open Go.RowKit Go.BigFrame
attribute [local go_sem] Oper.semAt_some Later.cell Later.frozen Lat.cell Lat.frozen NoX
theorem info_wayr : (Try.prog.info? 52).map (fun i => (i.zero, i.size, i.bytes)) = some (some (.slice none 0 0), 1, 24) := by kernel_rfl
/-- The one value that is handed on. -/
def hd0 (vs : Array Value) : Value := match vs.toList with
  | v :: _ => v
  | [] => undef
/-- Rows of beds that may be read. -/
def WysR (W : World) (base : Nat) (v : Value) (ws : List (List Int)) : Prop := ∃ vals : List Value, W.ownsRow base 52 1 v ws.length vals ∧ vals.length = ws.length ∧ ∀ i (h : i < ws.length), ∃ a c, vals[i]? = some (.slice a ws[i].length c) ∧ CellsAt W .i64 a ws[i] ∧ (a = none → ws[i].length = 0 ∧ c = 0) ∧ ws[i].length ≤ c ∧ c ≤ maxLen
/-- The ways that have come. -/
structure WysI (K base : Nat) (w : World) (ws : List (List Int)) (W : World) : Prop where
  chg : Chg (fun k => w.heap.size ≤ k) w W
  le : base ≤ W.heap.size
  ex : ∃ v vals, Vd K W ∧ W.heap[K]? = some (.cells #[v] 79 (0, 0)) ∧ W.ownsRow base 52 1 v ws.length vals ∧ vals.length = ws.length ∧ ∀ i (h : i < ws.length), ∃ a c, vals[i]? = some (.slice a ws[i].length c) ∧ RdK K W (.slice a ws[i].length c) ws[i]
theorem RdK.ownT {K : Nat} {A C : World} {v : Value} {xs : List Int} {row : Option Nat} (h : RdK K A v xs) (hg : A.grownBy C row) (hK : C.heap[K]? = A.heap[K]?) (hr : ∀ r, row = some r → (∃ o : Obj, A.heap[r]? = some o ∧ o.isCells = false) ∨ ∃ b0 b1 f, A.heap[r]? = some (.cells #[.bool b0] 4 f) ∧ C.heap[r]? = some (.cells #[.bool b1] 4 f)) : RdK K C v xs := by
  rcases h with h | ⟨b, o, c, cs, t, f, h1, h2, h3, h4, h5, h6⟩
  · exact .inl h
  · have hs : SafeB K A b := Classical.not_not.1 h4
    have hs2 : SafeB K C b := ⟨Nat.lt_of_lt_of_le hs.1 hg.size, hs.2.1, fun ⟨u, e1, e2⟩ => hs.2.2 ⟨u, by rw [← e1]; exact (World.cell?_of_block hK).symm, e2⟩⟩
    by_cases e : row = some b
    · rcases hr b e with ⟨o', h7, h8⟩ | ⟨b0, b1, f', h7, h8⟩
      · rw [h5] at h7; cases h7; cases h8
      · rw [h5] at h7
        cases h7
        refine .inr ⟨b, o, c, _, _, _, h1, h2, h3, fun e => e hs2, h8, fun i hi => ?_⟩
        have h9 := h6 i hi
        rcases Nat.eq_zero_or_pos (o + i) with e3 | e3
        · rw [e3] at h9; cases h9
        · rw [Array.getElem?_eq_none (by simpa using Nat.succ_le_of_lt e3)] at h9; cases h9
    · exact .inr ⟨b, o, c, cs, t, f, h1, h2, h3, fun e => e hs2, (hg.block b hs.1 (fun e' => e e'.symm)).trans h5, h6⟩
theorem WysI.own {K base B : Nat} {w : World} (hB : K < B) (hw : w.heap.size ≤ B) : OwnT B (WysI K base w) := by
  rintro ws A C row ⟨hc, hle, v, vals, hvd, hk, hr, hl, hall⟩ hg hrow
  have hKC : C.heap[K]? = A.heap[K]? := hg.block K (Array.getElem?_eq_some_iff.1 hk).1 (fun e => by have := (hrow K e.symm).1; omega)
  refine ⟨⟨hg.os.trans hc.os, hg.tape.trans hc.tape, hg.output.trans hc.output, Nat.le_trans hc.size hg.size, fun k h1 h2 => (hg.block k (Nat.lt_of_lt_of_le h1 hc.size) (fun e => by have := (hrow k e.symm).1; omega)).trans (hc.block k h1 h2)⟩, Nat.le_trans hle hg.size, v, vals, ⟨?_, fun k e => ?_⟩, hKC.trans hk, ?_, hl, fun i hi => ?_⟩
  · exact ⟨v, _, hKC.trans hk⟩
  · obtain ⟨u, e1, e2⟩ := e
    exact Nat.lt_of_lt_of_le (hvd.2 k ⟨u, by rw [← e1]; exact (World.cell?_of_block hKC).symm, e2⟩) hg.size
  · obtain ⟨h1, h2 | ⟨g, cap, cur, e1, h2, h3, h4⟩⟩ := hr
    · exact ⟨h1, .inl h2⟩
    · refine ⟨h1, .inr ⟨g, cap, cur, e1, h2, (hg.block g (Array.getElem?_eq_some_iff.1 h3).1 (fun e => ?_)).trans h3, h4⟩⟩
      rcases (hrow g e.symm).2 with ⟨o, h5, h6⟩ | ⟨b0, b1, f, h5, -⟩
      · rw [h3] at h5; cases h5; cases h6
      · rw [h3] at h5; injection h5 with h5; injection h5 with _ h6 _; exact absurd h6 (by decide)
  · obtain ⟨a, c, h1, h2⟩ := hall i hi
    exact ⟨a, c, h1, h2.ownT hg hKC (fun r e => (hrow r e).2)⟩
/-- A board of one's own is one that no round turns. -/
theorem BrdO.bdk {W : World} {base kb : Nat} {beds : List Int} {g : Int} {most darts K : Nat} (h : BrdO W base kb beds g most darts) (hS : ∀ k, base ≤ k → k < W.heap.size → SafeB K W k) : ∃ ba bc cv, BdK K W kb beds g (rwsO g beds most darts) ba bc cv := by
  obtain ⟨ba, bc, cv, h1, h2, h3, vals, h4, h5, h6⟩ := h
  refine ⟨ba, bc, cv, h2, hS kb h1 h2.lt, RdK.safe h3 hS, ?_⟩
  have hn : 0 < (rwsO g beds most darts).length := by rw [rwsO_len]; omega
  obtain ⟨-, ⟨-, e2⟩ | ⟨q, cap, cur, e1, r1, r2, -, -, -, r3⟩⟩ := h4
  · omega
  · refine ⟨q, cap, cur, _, _, e1, hS q r1 (Array.getElem?_eq_some_iff.1 r2).1, r2, fun i hi => ?_⟩
    obtain ⟨a, c, h7, h8⟩ := h6 i hi
    refine ⟨a, c, ?_, RdK.safe h8 hS⟩
    rw [← r3, List.getElem?_take_of_lt (by omega)] at h7
    simpa using h7
theorem cell_setT {w : World} {b : Nat} {v0 : Value} {t : TypeId} (h : w.heap[b]? = some (.cells #[v0] t (0, 0))) (x0 : Value) : (w.setCell ⟨b, 0, none⟩ x0).heap[b]? = some (.cells #[x0] t (0, 0)) := by
  obtain ⟨hlt, he⟩ := Array.getElem?_eq_some_iff.1 h
  simp only [World.setCell]
  rw [Array.getElem?_eq_getElem (by rw [Array.size_modify]; exact hlt), Array.getElem_modify_self, he]
  rfl
theorem rdk_cap {K : Nat} {W : World} {a : Option Addr} {c : Nat} {xs : List Int} (h : RdK K W (.slice a xs.length c) xs) : (a = none → xs.length = 0 ∧ c = 0) ∧ xs.length ≤ c ∧ c ≤ maxLen := by
  rcases h with ⟨e, hx⟩ | ⟨b, o, c', cs, t, f, e, h5, h6, -⟩
  · subst hx
    simp only [List.length_nil, Value.slice.injEq] at e
    obtain ⟨rfl, -, rfl⟩ := e
    exact ⟨fun _ => ⟨rfl, rfl⟩, Nat.le_refl _, Nat.zero_le _⟩
  · simp only [Value.slice.injEq] at e
    obtain ⟨rfl, -, rfl⟩ := e
    exact ⟨(by intro h; cases h), h5, h6⟩
set_option maxRecDepth 100000 in
set_option maxHeartbeats 8000000 in
theorem out_Ways (beds : List Int) (la : Option Addr) (lc : Nat) (g : Int) (darts s : Nat) (w : World) (hc : CellsAt w .i64 la beds) (hr : rulO beds g darts = true) (hs : 1 ≤ s ∧ s ≤ 1001) (ht : 0 < totO (rwsO g beds s darts) s ∧ totO (rwsO g beds s darts) s ≤ 3000) :
    Calls Try.prog 23 #[.agg #[.slice la beds.length lc, .int .i64 g, .int .i64 darts], .int .i64 s] w fun e w' => ∃ v, e = .returned (.tuple #[v, .int .i64 0]) ∧ WysR w' w.heap.size v (allO g beds (rwsO g beds s darts) darts s) ∧ Ext w w' := by
  have hp := rul_parts hr
  have hv := rul_wrt hr
  have hlen := (allO_len (g := g) (most := s) hp.1.2 (fun x hx => (hv.2 x hx).2.1) (by omega : darts ≤ 9) (Nat.le_refl s)).1
  have HV := Lib.hid hv
  have HLN : Hid ((allO g beds (rwsO g beds s darts) darts s).length ≤ 3000) := Lib.hid (by omega)
  have HNF := Lib.hid (fun W (hx : Ext w W) => out_newFinish beds la lc g darts s W (hc.ext hx) hr hs)
  have hd9 : 1 ≤ darts ∧ darts ≤ 9 := by omega
  obtain ⟨tot, htot⟩ : ∃ y, totO (rwsO g beds s darts) s = y := ⟨_, rfl⟩
  have HTOT := Lib.hid htot
  obtain ⟨all, hall⟩ : ∃ y, allO g beds (rwsO g beds s darts) darts s = y := ⟨_, rfl⟩
  rw [hall] at HLN ⊢
  have HAL := Lib.hid hall
  rw [htot] at ht
  clear hr hc hp hv hlen htot hall
  refine (callsIn_wide (n := 8)).1 ?_
  refine callsIn_of_wp_marks Try.func23 rfl trivial ?_ rfl
  simp only [Try.ntmps23, List.size_toArray, List.length_cons, List.length_nil, Nat.reduceAdd, Nat.reduceSub, Array.replicate_succ, Array.replicate_zero, List.push_toArray, List.append_toArray, List.nil_append, List.cons_append]
  gi_upto_region 1 with fail
  obtain ⟨w1, hw1⟩ : ∃ y, y = (w.alloc (.cells #[.slice la beds.length lc, .int .i64 g, .int .i64 darts] 74)).alloc (.cells #[.slice none 0 0] 79) := ⟨_, rfl⟩
  rw [← hw1]
  have HX1 : Hid (Ext w w1) := Lib.hid (by rw [hw1]; exact ((Ext.refl w).alloc _).alloc _)
  have HU1 : Hid (Blk w1 w.heap.size #[.slice la beds.length lc, .int .i64 g, .int .i64 darts]) := Lib.hid (by rw [hw1]; exact (Blk.new w _ _).alloc _)
  have HL1 : Hid (w1.heap[w.heap.size + 1]? = some (.cells #[.slice none 0 0] 79 (0, 0))) := Lib.hid (by rw [hw1]; exact heap_newN _ (by simp))
  have hsz : w1.heap.size = w.heap.size + 2 := by rw [hw1]; simp
  clear hw1
  obtain ⟨U, hU⟩ : ∃ y, y = w.heap.size := ⟨_, rfl⟩
  obtain ⟨K4, hK4⟩ : ∃ y, y = w.heap.size + 1 := ⟨_, rfl⟩
  rw [← hK4, ← hU]
  rw [← hK4] at HL1
  rw [← hU] at HU1
  have HUK := Lib.hid (And.intro hU (And.intro hK4 hsz))
  clear hU hK4 hsz
  have u0 := HU1.out.cell 0 (v := .slice la beds.length lc) rfl
  have u1 := HU1.out.cell 1 (v := .int .i64 g) rfl
  have u2 := HU1.out.cell 2 (v := .int .i64 darts) rfl
  have ul := HU1.out.lt
  gi_wp2_with fail
  refine ⟨trivial, (callsIn_wide.2 (HNF.out _ HX1.out)).mono ?_⟩
  rintro e w2 ⟨kb, rfl, hb, hx2⟩
  have HB := Lib.hid hb
  have HX2 := Lib.hid (HX1.out.trans hx2)
  have HL2 := Lib.hid (hx2.heap HL1.out)
  have HS2 := Lib.hid hx2.size
  clear hb hx2 u0 u1 u2 ul HNF HL1 HU1
  gi_upto_region 2 with fail
  generalize hw3 : World.alloc w2 _ = w3
  obtain ⟨p6, hp6⟩ : ∃ y, y = w2.heap.size := ⟨_, rfl⟩
  rw [← hp6]
  have HF : Hid (Blk w3 p6 (finV kb la beds.length lc g darts s)) := Lib.hid (by rw [← hw3, hp6]; exact Blk.new _ _ _)
  have HX23 : Hid (Ext w2 w3) := Lib.hid (by rw [← hw3]; exact (Ext.refl _).alloc _)
  clear hw3 hp6
  have HB3 := Lib.hid (HB.out.ext HX23.out)
  have HT := Lib.hid (out_totalB HB3.out s (Nat.le_refl _) (by omega) (by omega))
  rw [HTOT.out] at HT
  have f0 := HF.out.cell 0 (v := .pointer (some ⟨kb, 0, none⟩)) rfl
  have fl := HF.out.lt
  gi_wp2_with fail
  refine ⟨trivial, (callsIn_wide.2 HT.out).mono ?_⟩
  rintro e w4 ⟨rfl, hx4⟩
  have HX24 := Lib.hid (HX23.out.trans hx4)
  have HF4 := Lib.hid (HF.out.ext hx4)
  have HX4 := Lib.hid (HX2.out.trans HX24.out)
  have HB4 := Lib.hid (HB3.out.ext hx4)
  have HL4 := Lib.hid (HX24.out.heap HL2.out)
  clear hx4 f0 fl HT HB HB3 HF HL2
  have hvd : Vd K4 w4 := ⟨⟨_, _, HL4.out⟩, fun k ⟨v, e1, e2⟩ => by
    have h := (show Blk w4 K4 #[.slice none 0 0] from ⟨_, HL4.out⟩).cell 0 (v := .slice none 0 0) rfl
    rw [h] at e1
    cases e1
    cases e2⟩
  have hsafe : ∀ k, w1.heap.size ≤ k → k < w4.heap.size → SafeB K4 w4 k := fun k h1 h2 => ⟨h2, by have := HUK.out; omega, fun ⟨v, e1, e2⟩ => by
    have h := (show Blk w4 K4 #[.slice none 0 0] from ⟨_, HL4.out⟩).cell 0 (v := .slice none 0 0) rfl
    rw [h] at e1
    cases e1
    cases e2⟩
  obtain ⟨ba, bc, cv, hbdk⟩ := HB4.out.bdk hsafe
  have HSEQ := Lib.hid (all_seq 7 K4 kb g beds (rwsO g beds s darts) ba la bc lc cv darts s s w4 HV.out.1 HV.out.2 (by omega) (Nat.le_refl _) rwsO_mem (rwsO_len _ _ _ _) (by omega) hvd hbdk)
  rw [HAL.out] at HSEQ
  have HVD := Lib.hid hvd
  clear hvd hsafe hbdk
  have f0 := HF4.out.cell 0 (v := .pointer (some ⟨kb, 0, none⟩)) rfl
  have f1 := HF4.out.cell 1 (v := .slice la beds.length lc) rfl
  have f2 := HF4.out.cell 2 (v := .int .i64 g) rfl
  have f3 := HF4.out.cell 3 (v := .int .i64 darts) rfl
  have f4 := HF4.out.cell 4 (v := .int .i64 s) rfl
  have fl := HF4.out.lt
  have ht1 : tot ≠ 0 := by omega
  have ht2 : ¬ 3000 < tot := by omega
  gi_wp2
  have HKB : Hid (K4 < w4.heap.size ∧ w.heap.size ≤ K4) := Lib.hid ⟨HVD.out.lt, by have := HUK.out; omega⟩
  rename (tot == 0) = false => hq1
  rename tot ≤ 3000 => hq2
  clear ht1 ht2 ht hq1 hq2
  refine wpIn_rangeFunc_d (α := List Int) (N := all.length) (by decide) (gf := 46) (fb := #[.agg (finV kb la beds.length lc g darts s)]) (lb := #[]) rfl (enters_of Try.func46 (by kernel_rfl) rfl) HSEQ.out (fun h k => ⟨h.1.trans k.1, h.2.trans k.2⟩) (fun W o o' h ho _ => ⟨KpW.put o' h ho (by have := HKB.out; omega), kf_putO o' (by omega)⟩) (fun x W vs h => by obtain ⟨-, a, c, e, -⟩ := h; rw [e]; rfl)
    (WysI K4 w4.heap.size w) (WysI.own HKB.out.1 (by have := HKB.out; omega)) ⟨HX4.out.chg _, Nat.le_refl _, _, [], HVD.out, HL4.out, World.ownsRow_nil _ _ _ _, rfl, fun i hi => absurd hi (by simp)⟩
    (fun x vs W => encW K4 x W vs) (fun x vs u A C row h hg hr => encW.ofg h hg (fun r e => (hr r e).2)) (fun x W vs h => h) (fun x vs => { tmps := #[.agg #[.slice la beds.length lc, .int .i64 g, .int .i64 darts], .int .i64 s, .pointer (some ⟨U, 0, none⟩), undef, .pointer (some ⟨K4, 0, none⟩), .int .i64 0, .pointer (some ⟨p6, 0, none⟩), .int .i64 tot, hd0 vs, .tuple #[.agg #[.pointer (some ⟨kb, 0, none⟩), .slice la beds.length lc, .int .i64 g, .int .i64 darts, .int .i64 s], .int .i64 0], .agg #[.slice la beds.length lc, .int .i64 g, .int .i64 darts], .int .i64 s, .tuple #[.agg #[.pointer (some ⟨kb, 0, none⟩), .slice la beds.length lc, .int .i64 g, .int .i64 darts, .int .i64 s], .int .i64 0], .agg #[.pointer (some ⟨kb, 0, none⟩), .slice la beds.length lc, .int .i64 g, .int .i64 darts, .int .i64 s], .int .i64 0, .int .i64 0, .bool false, undef, .pointer (some ⟨p6, 0, none⟩), .pointer (some ⟨kb, 0, none⟩), .int .i64 s, .int .i64 tot, .bool (tot == 0), .int .i64 tot, .bool (tot == 0), .bool (decide (3000 < tot)), .int .i64 tot, .bool (decide (3000 < tot)), .agg #[.pointer (some ⟨kb, 0, none⟩), .slice la beds.length lc, .int .i64 g, .int .i64 darts, .int .i64 s], .func (.func 46) #[.agg #[.pointer (some ⟨kb, 0, none⟩), .slice la beds.length lc, .int .i64 g, .int .i64 darts, .int .i64 s]] #[], hd0 vs, undef, undef, undef, undef, undef], defers := [] }) ?assign ?body ?done
  case assign =>
    rintro l x vs W K ⟨hv1, a, c, rfl, hrd⟩ hK
    have HKK := Lib.hid hK
    clear hK hv1 hrd HSEQ
    dsimp only [hd0] at HKK ⊢
    gi_wp2
    exact HKK.out
  case body =>
    rintro l pre x vs W ⟨hchg, hle, v, vals, hvd, hk, hrow, hl, hall⟩ ⟨-, a, c, rfl, hrd⟩ hN
    have HCH := Lib.hid hchg
    have HVD2 := Lib.hid hvd
    have HKC := Lib.hid hk
    have HROW := Lib.hid hrow
    have HALL := Lib.hid hall
    have HRD := Lib.hid hrd
    have HVL := Lib.hid hl
    have hn : pre.length ≤ 3000 := by have := HLN.out; omega
    obtain ⟨va, vc, rfl⟩ := own_shape hrow
    have HSB : Hid (w4.heap.size ≤ W.heap.size) := Lib.hid hle
    clear hchg hvd hk hrow hall hrd hl HSEQ hle
    dsimp only [hd0]
    have c0 := (show Blk W K4 #[.slice va pre.length vc] from ⟨_, HKC.out⟩).cell 0 (v := .slice va pre.length vc) rfl
    have cl := (show Blk W K4 #[.slice va pre.length vc] from ⟨_, HKC.out⟩).lt
    have HROW2 := Lib.hid (own_chg HROW.out (((Ext.refl W).alloc (.cells #[.slice a x.length c] 52)).chg fun _ => False) fun _ _ => id)
    gi_wp2_with (refine wpIn_append_from rfl _ _ 79 52 _ 1 24 rfl info_wayr (by kernel_rfl) rfl (by decide) w4.heap.size (.slice va pre.length vc) pre.length vals rfl HROW2.out ⟨W.heap.size, 0, none⟩ 1 1 [.slice a x.length c] rfl rfl ?_ ?_ (by omega) (by omega) (by have := HSB.out; simp; omega) ?_)
    · intro j' u hj
      match j', hj with
      | 0, hj => cases hj; rw [addr_add]; exact (Blk.new W _ _).cell 0 rfl
    · intro u hu
      simp only [List.mem_cons, List.not_mem_nil, or_false] at hu
      rcases hu with rfl
      rfl
    intro v6 w6 hO6 hg6 hn6
    obtain ⟨va6, vc6, rfl⟩ := own_shape hO6
    have hal : Ext W (W.alloc (.cells #[.slice a x.length c] 52)) := (Ext.refl W).alloc _
    have hge : ∀ r, (Value.slice va pre.length vc).ownBlock = some r → w4.heap.size ≤ r := fun r hr => (World.ownsRow.lt HROW.out r hr).1
    have HK6 : Hid (w6.heap[K4]? = some (.cells #[.slice va pre.length vc] 79 (0, 0))) := Lib.hid (hg6.heap (hal.heap HKC.out) (fun e => by have h1 := hge _ e; have h2 := HKB.out; omega))
    have HO6 := Lib.hid hO6
    have HG6 := Lib.hid hg6
    have HN6 := Lib.hid hn6
    have HAL6 := Lib.hid hal
    clear hO6 hg6 hn6 hal hge c0 cl
    have c0 := (show Blk w6 K4 #[.slice va pre.length vc] from ⟨_, HK6.out⟩).cell 0 (v := .slice va pre.length vc) rfl
    have cf := (show Blk w6 K4 #[.slice va pre.length vc] from ⟨_, HK6.out⟩).frozen 0
    have cl := (show Blk w6 K4 #[.slice va pre.length vc] from ⟨_, HK6.out⟩).lt
    gi_wp2
    have hC7 : Chg (· = K4) w6 (w6.setCell ⟨K4, 0, none⟩ (.slice va6 (pre.length + 1) vc6)) := one_chg (· = K4) w6 rfl _
    have h7 := cell_setT HK6.out (.slice va6 (pre.length + 1) vc6)
    generalize w6.setCell ⟨K4, 0, none⟩ (.slice va6 (pre.length + 1) vc6) = w7 at hC7 h7 ⊢
    have hcW := (show Blk W K4 #[.slice va pre.length vc] from ⟨_, HKC.out⟩).cell 0 (v := .slice va pre.length vc) rfl
    have hc7 := (show Blk w7 K4 #[.slice va6 (pre.length + 1) vc6] from ⟨_, h7⟩).cell 0 (v := .slice va6 (pre.length + 1) vc6) rfl
    have hkp : KpW K4 W w7 := ⟨Nat.le_trans HAL6.out.size (Nat.le_trans HG6.out.size hC7.size), fun k cs t f hk hn hr => hC7.heap (HG6.out.heap (HAL6.out.heap hk) (fun e => hr ⟨_, hcW, e⟩)) hn, fun k ⟨u, e1, e2⟩ => by
      rw [hc7] at e1
      cases e1
      rcases HN6.out k e2 with e | e
      · exact .inl ⟨_, hcW, e⟩
      · exact .inr ⟨by have h1 := e.1; omega, Nat.lt_of_lt_of_le e.2 hC7.size⟩, fun _ => ⟨_, _, h7⟩⟩
    have hkf : ∀ B, KeepsFrom B W w7 := fun B => ((kf_ext HAL6.out).trans (kf_chgC HG6.out (fun q e => let ⟨cs, h⟩ := own_typeO HROW2.out e; ⟨cs, _, _, h⟩))).trans (kf_chgC hC7 (fun q e => by rw [show q = K4 from e]; exact ⟨_, _, _, HK6.out⟩))
    refine ⟨hkf _, ⟨hkp, hkf _⟩, ((HCH.out.trans (HAL6.out.chg _)).trans (HG6.out.mono fun q _ e => ?_)).trans (hC7.mono fun q _ e => ?_), Nat.le_trans HSB.out hkp.size, .slice va6 (pre.length + 1) vc6, vals ++ [.slice a x.length c], HVD2.out.kp hkp, h7, ?_, by simp [HVL.out], fun i hi => ?_⟩
    · have h1 := (World.ownsRow.lt HROW.out q e).1
      have h2 := HX4.out.size
      omega
    · rw [show q = K4 from e]; exact HKB.out.2
    · rw [List.length_append]
      exact own_chg HO6.out hC7 (fun q hq e => by have h1 := (World.ownsRow.lt HO6.out q hq).1; have h2 := HKB.out.1; have h3 : q = K4 := e; omega)
    · by_cases hlt : i < pre.length
      · obtain ⟨a', c', h4, h5⟩ := HALL.out i hlt
        rw [List.getElem_append_left hlt, List.getElem?_append_left (by rw [HVL.out]; exact hlt)]
        exact ⟨a', c', h4, h5.kp hkp⟩
      · have : i = pre.length := by simp at hi; omega
        subst this
        refine ⟨a, c, ?_, ?_⟩
        · rw [List.getElem?_append_right (by rw [HVL.out]; exact Nat.le_refl _)]
          simp [HVL.out]
        · simp only [List.getElem_append_right (Nat.le_refl _), Nat.sub_self, List.getElem_cons_zero]
          exact HRD.out.kp hkp
  case done =>
    rintro Dm xs W hD hxs hI hmk
    have hxs : xs = all := hxs
    subst hxs
    have HI := Lib.hid hI
    have HMK := Lib.hid hmk
    obtain ⟨hchg, hle, v, vals, hvd, hk, hrow, hl, hall⟩ := hI
    obtain ⟨va, vc, rfl⟩ := own_shape hrow
    have HKC := Lib.hid hk
    clear hchg hle hvd hk hrow hl hall hmk HSEQ
    have c0 := (show Blk W K4 #[.slice va xs.length vc] from ⟨_, HKC.out⟩).cell 0 (v := .slice va xs.length vc) rfl
    have cf := (show Blk W K4 #[.slice va xs.length vc] from ⟨_, HKC.out⟩).frozen 0
    have cl := (show Blk W K4 #[.slice va xs.length vc] from ⟨_, HKC.out⟩).lt
    dsimp only
    gi_wp2
    have hC7 : Chg (· = K4) W (W.setCell ⟨K4, 0, none⟩ (.slice va xs.length vc)) := one_chg (· = K4) W rfl _
    have h7 := cell_setT HKC.out (.slice va xs.length vc)
    have hmk : Marks w4.heap.size (W.setCell ⟨K4, 0, none⟩ (.slice va xs.length vc)) (Dm :: []) := ((Marks.nil _ _).cons (by simp) hD HMK.out).chg hC7 (fun D hD e => by
      simp only [List.mem_singleton] at hD
      have h1 := HKB.out
      have e : D = K4 := e
      omega)
    have hW : OwnFrom w4.heap.size (WysI K4 w4.heap.size w) := (WysI.own HKB.out.1 (by have := HKB.out; omega)).own
    have hW7 : WysI K4 w4.heap.size w xs (W.setCell ⟨K4, 0, none⟩ (.slice va xs.length vc)) := by
      obtain ⟨hchg, hle, v, vals, hvd, hk, hrow, hl, hall⟩ := HI.out
      rw [HKC.out] at hk
      cases hk
      have hkp : KpW K4 W (W.setCell ⟨K4, 0, none⟩ (.slice va xs.length vc)) := ⟨hC7.size, fun k cs t f hk hn hr => hC7.heap hk hn, fun k ⟨u, e1, e2⟩ => .inl ⟨u, by
        have h8 := (show Blk _ K4 #[.slice va xs.length vc] from ⟨_, h7⟩).cell 0 (v := .slice va xs.length vc) rfl
        rw [h8] at e1
        cases e1
        exact (show Blk W K4 #[.slice va xs.length vc] from ⟨_, HKC.out⟩).cell 0 rfl, e2⟩, fun _ => ⟨_, _, h7⟩⟩
      exact ⟨hchg.trans (hC7.mono fun q _ e => by rw [show q = K4 from e]; exact HKB.out.2), Nat.le_trans hle hC7.size, _, vals, hvd.kp hkp, h7, own_chg hrow hC7 (fun q hq e => by have h1 := (World.ownsRow.lt hrow q hq).1; have h2 := HKB.out.1; have h3 : q = K4 := e; omega), hl, fun i hi => let ⟨a, c, h1, h2⟩ := hall i hi; ⟨a, c, h1, h2.kp hkp⟩⟩
    generalize W.setCell ⟨K4, 0, none⟩ (.slice va xs.length vc) = w7 at hC7 h7 hmk hW7 ⊢
    show LeavesInM _ _ _ _ _ _ ([Dm].map markOf) .returning _
    refine ret_mN (v := .tuple #[.slice va xs.length vc, .int .i64 0]) (lo := w4.heap.size) (w := w7) [Dm] w7 .refl hmk ?_
    intro W8 hsh
    have h8 := hsh.heap h7 (by intro e; cases e)
    have y0 := (show Blk W8 K4 #[.slice va xs.length vc] from ⟨_, h8⟩).cell 0 (v := .slice va xs.length vc) rfl
    obtain ⟨hchg, hle, v, vals, hvd, hk, hrow, hl, hall⟩ := hsh.ownF hW hW7
    rw [h8] at hk
    cases hk
    refine ⟨by simp [results, Try.results23, go_sem, y0], _, rfl, ⟨vals, own_mono hrow (by have := HKB.out; omega), hl, fun i hi => ?_⟩, Chg.to_ext (Ext.refl w) hchg (fun q e => e)⟩
    obtain ⟨a, c, h1, h2⟩ := hall i hi
    have hcp := rdk_cap h2
    obtain ⟨_, _, e, h3, -⟩ := h2.cells
    cases e
    exact ⟨a, c, h1, h3, hcp⟩
end Go.Proofs.Ytpifdeglhalefaa
