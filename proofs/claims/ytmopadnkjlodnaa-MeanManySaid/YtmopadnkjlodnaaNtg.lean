/-
  The laws' package: legs (rows of legs, without the reference).
-/
import Derived.Test.YtmopadnkjlodnaaRle
import Derived.Test.YtmopadnkjlodnaaMog
namespace Go.Proofs.Ytmopadnkjlodnaa
open Go.RowKit Go.BigFrame
attribute [local go_sem] Later.cell Later.frozen
/-- Legs that lie in a row, as any argument. -/
def LgsA (w : World) (la : Option Addr) (ls : List Leg) : Prop := ∀ i (h : i < ls.length), ∃ b o ba sa bc sc, la = some ⟨b, o, none⟩ ∧ (∀ j u, (ls[i].cells ba sa bc sc)[j]? = some u → w.cell? ⟨b, o + i * 6 + j, none⟩ = some u) ∧ BedA w ba bc ls[i].beds ∧ BedA w sa sc ls[i].scores ∧ I64 ls[i].start
theorem LgsA.ext {w w' : World} {la : Option Addr} {ls : List Leg} (h : LgsA w la ls) (hx : Ext w w') : LgsA w' la ls := fun i hi =>
  let ⟨b, o, ba, sa, bc, sc, e, h1, h2, h3, h4⟩ := h i hi; ⟨b, o, ba, sa, bc, sc, e, fun j u hu => hx.cell (h1 j u hu), h2.ext hx, h3.ext hx, h4⟩
/-- Legs of one's own. -/
def LgsO (w : World) (base : Nat) (v : Value) (ls : List Leg) : Prop := ∃ vals : List Value, w.ownsRow base 28 6 v ls.length vals ∧ vals.length = 6 * ls.length ∧ ∀ i (h : i < ls.length), ∃ ba sa bc sc, (∀ j u, (ls[i].cells ba sa bc sc)[j]? = some u → vals[6 * i + j]? = some u) ∧ OwnD w base (.slice ba ls[i].beds.length bc) ls[i].beds ∧ OwnI w base (.slice sa ls[i].scores.length sc) ls[i].scores
theorem LgsO.shape {w : World} {base : Nat} {v : Value} {ls : List Leg} (h : LgsO w base v ls) : ∃ a c, v = .slice a ls.length c := let ⟨_, h1, _⟩ := h; own_shape h1
theorem LgsO.ext {w w' : World} {base : Nat} {v : Value} {ls : List Leg} (h : LgsO w base v ls) (hx : Ext w w') : LgsO w' base v ls :=
  let ⟨vals, h1, h2, h3⟩ := h; ⟨vals, own_chg h1 (hx.chg fun _ => False) fun _ _ => id, h2, fun i hi => let ⟨ba, sa, bc, sc, k1, k2, k3⟩ := h3 i hi; ⟨ba, sa, bc, sc, k1, k2.ext hx, k3.ext hx⟩⟩
theorem lg_ne {w : World} {base b2 : Nat} {v u : Value} {n m : Nat} {vals ys : List Value} {e : TypeId} {z : Nat} (h1 : w.ownsRow base 28 6 v n vals) (hu : w.ownsRow b2 e z u m ys) (hne : e ≠ 28) : ∀ k, u.ownBlock = some k → ¬ v.ownBlock = some k := by
  intro k hk e'
  obtain ⟨_, e1⟩ := own_type hu hk
  obtain ⟨_, e2⟩ := own_type h1 e'
  rw [e1] at e2
  cases e2
  exact hne rfl
theorem Leg.cells_len (l : Leg) (ba sa : Option Addr) (bc sc : Nat) : (l.cells ba sa bc sc).length = 6 := rfl
theorem LgsO.snoc {w w' : World} {base : Nat} {v v' : Value} {ls : List Leg} {l : Leg} {ba sa : Option Addr} {bc sc : Nat} {vals : List Value} (h1 : w.ownsRow base 28 6 v ls.length vals) (h2 : vals.length = 6 * ls.length)
    (h3 : ∀ i (h : i < ls.length), ∃ ba sa bc sc, (∀ j u, (ls[i].cells ba sa bc sc)[j]? = some u → vals[6 * i + j]? = some u) ∧ OwnD w base (.slice ba ls[i].beds.length bc) ls[i].beds ∧ OwnI w base (.slice sa ls[i].scores.length sc) ls[i].scores)
    (hb : OwnD w base (.slice ba l.beds.length bc) l.beds) (hs : OwnI w base (.slice sa l.scores.length sc) l.scores)
    (hrow : w'.ownsRow base 28 6 v' (ls.length + 1) (vals ++ l.cells ba sa bc sc)) (hx : Chg (fun k => v.ownBlock = some k) w w') : LgsO w' base v' (ls ++ [l]) := by
  refine ⟨vals ++ l.cells ba sa bc sc, by simpa using hrow, by rw [List.length_append, Leg.cells_len, h2, List.length_append, List.length_singleton]; omega, fun i hi => ?_⟩
  by_cases hlt : i < ls.length
  · obtain ⟨a, s, c, d, k1, k2, k3⟩ := h3 i hlt
    rw [List.getElem_append_left hlt]
    refine ⟨a, s, c, d, fun j u hu => ?_, own_chg k2 hx (lg_ne h1 k2 (by decide)), own_chg k3 hx (lg_ne h1 k3 (by decide))⟩
    have hj : j < 6 := by have h := (List.getElem?_eq_some_iff.1 hu).1; rwa [Leg.cells_len] at h
    rw [List.getElem?_append_left (by omega)]
    exact k1 j u hu
  · have : i = ls.length := by simp at hi; omega
    subst this
    simp only [List.getElem_append_right (Nat.le_refl _), Nat.sub_self, List.getElem_cons_zero]
    refine ⟨ba, sa, bc, sc, fun j u hu => ?_, own_chg hb hx (lg_ne h1 hb (by decide)), own_chg hs hx (lg_ne h1 hs (by decide))⟩
    rw [List.getElem?_append_right (by omega), h2, Nat.add_sub_cancel_left]
    exact hu
theorem LgsO.legs {w : World} {base : Nat} {a : Option Addr} {n c : Nat} {ls : List Leg} (h : LgsO w base (.slice a n c) ls) (hi : ∀ l ∈ ls, (∀ x ∈ l.beds, I64 x) ∧ (∀ x ∈ l.scores, I64 x) ∧ I64 l.start) : LegsAt w a ls := by
  intro i hl
  obtain ⟨vals, h1, h2, h3⟩ := h
  obtain ⟨ba, sa, bc, sc, k1, k2, k3⟩ := h3 i hl
  have hc := fun g (hg : (Value.slice a n c).ownBlock = some g) => World.ownsRow.cells (w := w) (g := g) h1 hg
  obtain ⟨-, ⟨-, e2⟩ | ⟨g, cap, cur, e1, -⟩⟩ := h1
  · omega
  · cases e1
    have hm := hi _ (List.getElem_mem hl)
    refine ⟨g, 0, ba, sa, bc, sc, rfl, fun j u hu => ?_, ⟨k2.rd (fun _ _ h => h), RdI.of_own k3 (fun _ _ h => h), hm.1, hm.2.1, hm.2.2⟩⟩
    have := hc g rfl (6 * i + j) u (k1 j u hu)
    rw [addr_add, Nat.zero_add] at this
    rw [show 0 + i * 6 + j = 6 * i + j by omega]
    exact this
theorem info_ml : (Try.prog.info? 28).map (fun i => (i.zero, i.size, i.bytes)) = some (some (.agg #[.int .i64 0, .int .i64 0, .int .i64 0, .slice none 0 0, .slice none 0 0, .bool false]), 6, 80) := by kernel_rfl
set_option maxRecDepth 100000 in
set_option maxHeartbeats 8000000 in
theorem law_legs (ls : List Leg) (la : Option Addr) (lc : Nat) (w : World) (hl : LgsA w la ls) (hn : ls.length ≤ 1000) (hb : ∀ l ∈ ls, l.beds.length ≤ 1000 ∧ l.scores.length ≤ 1000) :
    Calls Try.prog 40 #[.slice la ls.length lc] w fun e w' => ∃ v, e = .returned v ∧ LgsO w' w.heap.size v ls ∧ Ext w w' := by
  have HL := Lib.hid hl
  have HM := Lib.hid hb
  clear hl hb
  go_enter Try.func40, Try.ntmps40
  go_wp2
  go_loopw [3, 4] (fun f i wr => ∃ (k : Nat) (fv : Value), k ≤ ls.length ∧ fv = f ∧ i = .int .i64 k ∧ LgsO wr w.heap.size fv (ls.take k) ∧ Ext w wr) (fun _ i _ => ls.length - (intOf i).toNat)
  case atStart => exact ⟨0, _, Nat.zero_le _, rfl, rfl, ⟨[], own_empty rfl (Nat.le_refl _), rfl, fun i hi => absurd hi (by simp)⟩, (Ext.refl w).alloc _⟩
  case round =>
    obtain ⟨k, fv, hk, rfl, rfl, hO, hx⟩ := hrel
    have HO := Lib.hid hO
    have HX := Lib.hid hx
    clear hO hx
    obtain ⟨w0, rfl⟩ : ∃ x, x = wr := ⟨_, rfl⟩
    by_cases hlt : k < ls.length
    · obtain ⟨bb, bo, lba, lsa, lbc, lsc, rfl, hcell, hb1, hb2, -⟩ := HL.out k hlt
      have hmm := HM.out _ (List.getElem_mem hlt)
      have htk : ls.take (k + 1) = ls.take k ++ [ls[k]] := by rw [List.take_succ_eq_append_getElem hlt]
      obtain ⟨⟨start, gin, gout, beds, scores, won⟩, hle⟩ : ∃ y, ls[k] = y := ⟨_, rfl⟩
      rw [hle] at hcell hb1 hb2 hmm htk
      have HTK := Lib.hid htk
      have HCELL := Lib.hid hcell
      have HB : Hid (BedA w lba lbc beds) := Lib.hid hb1
      have HS : Hid (BedA w lsa lsc scores) := Lib.hid hb2
      have hmb : beds.length ≤ 1000 := hmm.1
      have hms : scores.length ≤ 1000 := hmm.2
      clear hle hcell hb1 hb2 hmm htk
      have c0 : w0.cell? ⟨bb, bo + k * 6, none⟩ = some (.int .i64 start) := HX.out.cell (HCELL.out 0 (.int .i64 start) rfl)
      have c1 : w0.cell? ⟨bb, bo + k * 6 + 1, none⟩ = some (.int .i64 gin) := HX.out.cell (HCELL.out 1 (.int .i64 gin) rfl)
      have c2 : w0.cell? ⟨bb, bo + k * 6 + 2, none⟩ = some (.int .i64 gout) := HX.out.cell (HCELL.out 2 (.int .i64 gout) rfl)
      have c3 : w0.cell? ⟨bb, bo + k * 6 + 3, none⟩ = some (.slice lba beds.length lbc) := HX.out.cell (HCELL.out 3 (.slice lba beds.length lbc) rfl)
      have c4 : w0.cell? ⟨bb, bo + k * 6 + 4, none⟩ = some (.slice lsa scores.length lsc) := HX.out.cell (HCELL.out 4 (.slice lsa scores.length lsc) rfl)
      have c5 : w0.cell? ⟨bb, bo + k * 6 + 5, none⟩ = some (.bool won) := HX.out.cell (HCELL.out 5 (.bool won) rfl)
      have cl := lt_of_cell c0
      simp only at cl
      have hcp := law_copied start gin gout beds lba lbc scores lsa lsc won w0 (HB.out.ext HX.out) (HS.out.ext HX.out) hmb hms
      have HCP := Lib.hid hcp
      clear hcp
      go_wp2_with fail
      refine HCP.out.mono ?_
      rintro e w3 ⟨ia, ic, ja, jc, rfl, hO1, hO2, hx3⟩
      have HO1 := Lib.hid hO1
      have HO2 := Lib.hid hO2
      have HX3 := Lib.hid hx3
      clear hO1 hO2 hx3 c0 c1 c2 c3 c4 c5 cl HCP
      have hlen : (ls.take k).length = k := by rw [List.length_take, Nat.min_eq_left hk]
      obtain ⟨vals, ho1, ho2, ho3⟩ := HO.out.ext HX3.out
      rw [hlen] at ho1
      have HROW := Lib.hid (own_chg ho1 (((Ext.refl w3).alloc (.cells #[.int .i64 start, .int .i64 gin, .int .i64 gout, .slice ia beds.length ic, .slice ja scores.length jc, .bool won] 28)).chg fun _ => False) fun _ _ => id)
      have HOO2 := Lib.hid ho2
      have HOO3 := Lib.hid ho3
      have HSZ : Hid (w.heap.size ≤ w0.heap.size ∧ w0.heap.size ≤ w3.heap.size) := Lib.hid ⟨HX.out.size, HX3.out.size⟩
      clear ho1 ho2 ho3 hlen
      go_wp2_with (at_builtin; refine wp_append_from rfl _ _ 75 28 _ 6 80 rfl info_ml (by kernel_rfl) rfl (by decide) w.heap.size fv k _ rfl HROW.out (some ⟨w3.heap.size, 0, none⟩) 1 1 [.int .i64 start, .int .i64 gin, .int .i64 gout, .slice ia beds.length ic, .slice ja scores.length jc, .bool won] rfl (fun h => by cases h) rfl ?_ ?_ (by omega) (by omega) (by have h1 := HSZ.out; simp; omega) ?_)
      · intro ad had j u hj
        cases had
        match j, hj with
        | 0, hj => cases hj; rw [addr_add]; exact (Blk.new w3 _ _).cell 0 rfl
        | 1, hj => cases hj; rw [addr_add]; exact (Blk.new w3 _ _).cell 1 rfl
        | 2, hj => cases hj; rw [addr_add]; exact (Blk.new w3 _ _).cell 2 rfl
        | 3, hj => cases hj; rw [addr_add]; exact (Blk.new w3 _ _).cell 3 rfl
        | 4, hj => cases hj; rw [addr_add]; exact (Blk.new w3 _ _).cell 4 rfl
        | 5, hj => cases hj; rw [addr_add]; exact (Blk.new w3 _ _).cell 5 rfl
      · intro u hu
        simp only [List.mem_cons, List.not_mem_nil, or_false] at hu
        rcases hu with rfl | rfl | rfl | rfl | rfl | rfl <;> rfl
      intro v8 w8 hO8 hg8 hn8
      have HO8 : Hid (LgsO w8 w.heap.size v8 (ls.take (k + 1))) := Lib.hid (by
        rw [HTK.out]
        have hlen : (ls.take k).length = k := by rw [List.length_take, Nat.min_eq_left hk]
        have hal : Ext w3 (w3.alloc (.cells #[.int .i64 start, .int .i64 gin, .int .i64 gout, .slice ia beds.length ic, .slice ja scores.length jc, .bool won] 28)) := (Ext.refl w3).alloc _
        exact LgsO.snoc (l := ⟨start, gin, gout, beds, scores, won⟩) (by rw [hlen]; exact HROW.out) HOO2.out (fun i hi => let ⟨a, s, c, d, k1, k2, k3⟩ := HOO3.out i hi; ⟨a, s, c, d, k1, k2.ext hal, k3.ext hal⟩) (own_mono (HO1.out.ext hal) HSZ.out.1) (own_mono (HO2.out.ext hal) HSZ.out.1) (by rw [hlen]; exact hO8) hg8)
      have HX8 : Hid (Ext w w8) := Lib.hid (Chg.to_ext ((HX.out.trans HX3.out).alloc _) hg8 (fun i hi => (World.ownsRow.lt HROW.out i hi).1))
      clear hO8 hg8 hn8
      go_wp2
      go_roundw
      case rel => exact ⟨k + 1, v8, by omega, by first | rfl | simp, by go_num, HO8.out, HX8.out⟩
      case measure => simp [intOf]; omega
    · obtain rfl : k = ls.length := by omega
      have ho := HO.out
      rw [List.take_of_length_le (Nat.le_refl _)] at ho
      have HO2 := Lib.hid ho
      clear ho
      go_wp2
      refine bodyPost_ret (v := fv) (by simp [results, Try.results40, go_sem]) rfl ⟨fv, rfl, HO2.out, HX.out⟩
end Go.Proofs.Ytmopadnkjlodnaa
