/-
  Package out: a board that counts ways.
-/
import Derived.Test.YtpifdeglhalefaaOuf
import Derived.Test.YtpifdeglhalefaaSen
namespace Go.Proofs.Ytpifdeglhalefaa
open Go.RowKit Go.BigFrame
attribute [local go_sem] Oper.semAt_some Later.cell Later.frozen Lat.cell Lat.frozen NoX
/-- A board of one's own, while it is made. -/
def BrdT (W : World) (kb : Nat) (v0 : Value) (g : Int) (v2 : Value) : Prop := W.heap[kb]? = some (.cells #[v0, .int .i64 g, v2] 153 (0, 0))
theorem BrdT.blk {W : World} {kb : Nat} {v0 v2 : Value} {g : Int} (h : BrdT W kb v0 g v2) : Blk W kb #[v0, .int .i64 g, v2] := ⟨_, h⟩
theorem BrdT.ext {W W' : World} {kb : Nat} {v0 v2 : Value} {g : Int} (h : BrdT W kb v0 g v2) (hx : Ext W W') : BrdT W' kb v0 g v2 := hx.heap h
theorem BrdT.chg {S : Nat → Prop} {W W' : World} {kb : Nat} {v0 v2 : Value} {g : Int} (h : BrdT W kb v0 g v2) (hx : Chg S W W') (hs : ¬ S kb) : BrdT W' kb v0 g v2 := hx.heap h hs
theorem BrdT.set0 {W : World} {kb : Nat} {v0 v2 : Value} {g : Int} (h : BrdT W kb v0 g v2) (v : Value) : BrdT (W.setCell ⟨kb, 0, none⟩ v) kb v g v2 := by
  obtain ⟨hlt, he⟩ := Array.getElem?_eq_some_iff.1 h
  unfold BrdT
  simp only [World.setCell]
  rw [Array.getElem?_eq_getElem (by rw [Array.size_modify]; exact hlt), Array.getElem_modify_self, he]
  rfl
theorem BrdT.set2 {W : World} {kb : Nat} {v0 v2 : Value} {g : Int} (h : BrdT W kb v0 g v2) (v : Value) : BrdT (W.setCell ⟨kb, 2, none⟩ v) kb v0 g v := by
  obtain ⟨hlt, he⟩ := Array.getElem?_eq_some_iff.1 h
  unfold BrdT
  simp only [World.setCell]
  rw [Array.getElem?_eq_getElem (by rw [Array.size_modify]; exact hlt), Array.getElem_modify_self, he]
  rfl
theorem BrdT.ne {W : World} {kb base : Nat} {v0 v2 u : Value} {g : Int} {e : TypeId} {z n : Nat} {ys : List Value} (h : BrdT W kb v0 g v2) (hu : W.ownsRow base e z u n ys) (hne : e ≠ 153) : ∀ q, u.ownBlock = some q → ¬ q = kb := by
  rintro q hq rfl
  obtain ⟨_, e1⟩ := own_typeO hu hq
  unfold BrdT at h
  rw [e1] at h
  injection h with h
  injection h with _ e2 _
  exact hne e2
theorem info_bedS : (Try.prog.info? 124).map (fun i => (i.zero, i.size, i.bytes)) = some (some (.agg #[.int .i64 0]), 1, 8) := by kernel_rfl
theorem info_row : (Try.prog.info? 25).map (fun i => (i.zero, i.size, i.bytes)) = some (some (.slice none 0 0), 1, 24) := by kernel_rfl
theorem own_rd {S : Nat → Prop} {W : World} {base : Nat} {e : TypeId} {v : Value} {xs : List Int} (h : W.ownsRow base e 1 v xs.length (xs.map (Value.int .i64))) (hS : ∀ k, base ≤ k → ¬ S k) : RdI S W v xs := by
  obtain ⟨h1, ⟨e1, h2⟩ | ⟨g, cap, cur, e1, h2, h3, h4, h5, h6, h7⟩⟩ := h
  · exact .inl ⟨e1, List.length_eq_zero_iff.1 h2⟩
  · refine .inr ⟨g, 0, cap, cur, _, _, e1, h4, h5, hS g h2, h3, fun i hi => ?_⟩
    have : (cur.toList.take (xs.length * 1))[i]? = some (.int .i64 xs[i]) := by rw [h7]; simp [hi]
    rw [List.getElem?_take_of_lt (by omega)] at this
    simpa using this
/-- What is known while a row is counted and put to a board (operations: i4 the counts, i7 the last row, i8 the new one, i9 i10 its append, i13 the store). -/
structure GBr (s0 kb : Nat) (g : Int) (v0 cv : Value) (rows : List (List Int)) (lr nr : List Int) (beds : List Int) (L : Nat → Bool) (u : Nat → Value) (W : World) : Prop where
  brd : BrdT W kb v0 g (bif L 13 then u 10 else cv)
  bed : W.ownsRow s0 124 1 v0 beds.length (beds.map (Value.int .i64))
  rows_ : L 10 = false → RowsO W s0 cv rows
  last : L 7 = true → L 10 = false → OwnI W s0 (u 7) lr
  row : L 8 = true → L 10 = false → OwnI W s0 (u 8) nr
  box : L 9 = true → L 10 = false → ∃ b, u 9 = .slice (some ⟨b, 0, none⟩) 1 1 ∧ W.cell? ⟨b, 0, none⟩ = some (u 8)
  rows' : L 10 = true → RowsO W s0 (u 10) (rows ++ [nr])
theorem GBr.congr {s0 kb : Nat} {g : Int} {v0 cv : Value} {rows : List (List Int)} {lr nr beds : List Int} {L L' : Nat → Bool} {u u' : Nat → Value} {W : World} (h : GBr s0 kb g v0 cv rows lr nr beds L u W) (h7 : L' 7 = L 7) (h8 : L' 8 = L 8) (h9 : L' 9 = L 9) (h10 : L' 10 = L 10) (h13 : L' 13 = L 13) (u7 : u' 7 = u 7) (u8 : u' 8 = u 8) (u9 : u' 9 = u 9) (u10 : u' 10 = u 10) : GBr s0 kb g v0 cv rows lr nr beds L' u' W :=
  ⟨by rw [h13, u10]; exact h.brd, h.bed, by rw [h10]; exact h.rows_, by rw [h7, h10, u7]; exact h.last, by rw [h8, h10, u8]; exact h.row, by rw [h9, h10, u9, u8]; exact h.box, by rw [h10, u10]; exact h.rows'⟩
theorem GBr.ext {s0 kb : Nat} {g : Int} {v0 cv : Value} {rows : List (List Int)} {lr nr beds : List Int} {L : Nat → Bool} {u : Nat → Value} {W W' : World} (h : GBr s0 kb g v0 cv rows lr nr beds L u W) (hx : Ext W W') : GBr s0 kb g v0 cv rows lr nr beds L u W' :=
  ⟨h.brd.ext hx, own_chg h.bed (hx.chg fun _ => False) fun _ _ => id, fun e => (h.rows_ e).ext hx, fun e f => OwnI.ext (h.last e f) hx, fun e f => OwnI.ext (h.row e f) hx, fun e f => let ⟨b, h1, h2⟩ := h.box e f; ⟨b, h1, hx.cell h2⟩, fun e => (h.rows' e).ext hx⟩
def RBr (m r : Nat) (cv : Value) (k : Nat) (v : Value) : Prop := (k = 4 → v = cv) ∧ (k = 7 → ∃ a c, v = .slice a m c) ∧ (k = 8 → ∃ a c, v = .slice a m c) ∧ (k = 9 → ∃ b, v = .slice (some ⟨b, 0, none⟩) 1 1) ∧ (k = 10 → ∃ a c, v = .slice a (r + 1) c)
def wBr (m r : Nat) (cv : Value) (k : Nat) : Value := if k = 4 then cv else if k = 7 then .slice none m 0 else if k = 8 then .slice none m 0 else if k = 9 then .slice (some ⟨0, 0, none⟩) 1 1 else .slice none (r + 1) 0
theorem wBr_ok (m r : Nat) (cv : Value) (k : Nat) : RBr m r cv k (wBr m r cv k) := by
  unfold RBr wBr
  refine ⟨?_, ?_, ?_, ?_, ?_⟩ <;> rintro rfl
  · rfl
  · exact ⟨none, 0, rfl⟩
  · exact ⟨none, 0, rfl⟩
  · exact ⟨0, rfl⟩
  · exact ⟨none, 0, rfl⟩
theorem rwsO_zero (g : Int) (beds : List Int) (most : Nat) : rwsO g beds most 0 = [rwO g beds most 0] := rfl
theorem rwsO_succ (g : Int) (beds : List Int) (most k : Nat) : rwsO g beds most (k + 1) = rwsO g beds most k ++ [rwO g beds most (k + 1)] := by
  unfold rwsO
  rw [List.range_succ, List.map_append]
  rfl
theorem rwsO_len (g : Int) (beds : List Int) (most k : Nat) : (rwsO g beds most k).length = k + 1 := by unfold rwsO; simp
theorem rwsO_last {g : Int} {beds : List Int} {most k : Nat} (h : (rwsO g beds most k).length - 1 < (rwsO g beds most k).length) : (rwsO g beds most k)[(rwsO g beds most k).length - 1] = rwO g beds most k := by
  unfold rwsO
  simp
set_option maxRecDepth 100000 in
set_option maxHeartbeats 8000000 in
theorem out_newBoard (beds : List Int) (la : Option Addr) (lc : Nat) (g : Int) (darts most : Nat) (w : World) (hb : CellsAt w .i64 la beds) (hl : beds.length ≤ 1000) (hi : ∀ x ∈ beds, I64 x ∧ 1 ≤ wrt x ∧ wrt x ≤ 100) (hd : darts ≤ 20) (hm : most ≤ 1500) :
    Calls Try.prog 40 #[.slice la beds.length lc, .int .i64 g, .int .i64 darts, .int .i64 most] w fun e w' => ∃ kb ba bc cv, e = .returned (.pointer (some ⟨kb, 0, none⟩)) ∧ w.heap.size ≤ kb ∧ Blk w' kb #[.slice ba beds.length bc, .int .i64 g, cv] ∧ w'.ownsRow w.heap.size 124 1 (.slice ba beds.length bc) beds.length (beds.map (Value.int .i64)) ∧ RowsO w' w.heap.size cv (rwsO g beds most darts) ∧ Ext w w' := by
  have HB := Lib.hid hb
  have HI := Lib.hid hi
  clear hb hi
  go_enter Try.func40, Try.ntmps40
  go_wp2
  rename_i K0 b0
  go_loopw [11, 18] (fun _ i wr => ∃ (k : Nat) (bv : Value), k ≤ beds.length ∧ i = .int .i64 k ∧ BrdT wr w.heap.size bv g (.slice none 0 0) ∧ wr.ownsRow w.heap.size 124 1 bv k ((beds.take k).map (Value.int .i64)) ∧ Ext w wr) (fun _ i _ => beds.length - (intOf i).toNat)
  case atStart => exact ⟨0, _, Nat.zero_le _, rfl, by show (w.heap.push _)[w.heap.size]? = _; simp, World.ownsRow_nil _ _ _ _, (Ext.refl w).alloc _⟩
  case round =>
    obtain ⟨k, bv, hk, rfl, hbt, hrow, hx⟩ := hrel
    obtain ⟨w3, rfl⟩ : ∃ y, y = wr := ⟨_, rfl⟩
    have HBT := Lib.hid hbt
    have HX := Lib.hid hx
    have HRW := Lib.hid hrow
    clear hbt hx hrow
    by_cases hlt : k < beds.length
    · obtain ⟨bb, bo, rfl, hc0⟩ := HB.out k hlt
      have hc := HX.out.cell hc0
      have hcl := lt_of_cell hc
      simp only at hcl
      have HT := Lib.hid (List.take_succ_eq_append_getElem hlt)
      obtain ⟨x, hx⟩ : ∃ y, beds[k] = y := ⟨_, rfl⟩
      rw [hx] at hc HT
      have hlt' : (k : Int) < (beds.length : Int) := by omega
      have p0 := HBT.out.blk.cell 0 (v := bv) rfl
      have pl := HBT.out.blk.lt
      have HROW := Lib.hid (own_chg HRW.out (((Ext.refl w3).alloc (.cells #[.int .i64 x] 124)).chg fun _ => False) fun _ _ => id)
      have HSZ := Lib.hid HX.out.size
      clear hc0 hx
      go_wp2_with (at_builtin; refine wp_append_from rfl _ _ 150 124 _ 1 8 rfl info_bedS (by kernel_rfl) rfl (by decide) w.heap.size bv k _ rfl HROW.out (some ⟨w3.heap.size, 0, none⟩) 1 1 [.int .i64 x] rfl (fun h => by cases h) rfl ?_ ?_ (by omega) (by omega) (by have h2 := HSZ.out; simp; omega) ?_)
      · intro ad had j' u hj
        cases had
        match j', hj with
        | 0, hj => cases hj; rw [addr_add]; exact (Blk.new w3 _ _).cell 0 rfl
      · intro u hu
        simp only [List.mem_cons, List.not_mem_nil, or_false] at hu
        rcases hu with rfl
        rfl
      intro v5 w5 hO5 hg5 hn5
      obtain ⟨va, vc, rfl⟩ := own_shape hO5
      have hal : Ext w3 (w3.alloc (.cells #[.int .i64 x] 124)) := (Ext.refl w3).alloc _
      have HB5 : Hid (BrdT w5 w.heap.size bv g (.slice none 0 0)) := Lib.hid ((HBT.out.ext hal).chg hg5 (fun e => (HBT.out.ext hal).ne HROW.out (by decide) _ e rfl))
      have HO5 : Hid (w5.ownsRow w.heap.size 124 1 (.slice va (k + 1) vc) (k + 1) ((beds.take (k + 1)).map (Value.int .i64))) := Lib.hid (by rw [HT.out, List.map_append, List.map_take]; exact hO5)
      have HX5 : Hid (Ext w w5) := Lib.hid (Chg.to_ext (HX.out.trans hal) hg5 (fun q hq => (World.ownsRow.lt HROW.out q hq).1))
      have q0 := HB5.out.blk.cell 0 (v := bv) rfl
      have qf := HB5.out.blk.frozen 0
      have ql := HB5.out.blk.lt
      clear hO5 hg5 hn5 hal p0 pl hc hcl HROW HRW HBT
      go_wp2
      go_roundw
      case rel =>
        have hC : Chg (· = w.heap.size) w5 (w5.setCell ⟨w.heap.size, 0, none⟩ (.slice va (k + 1) vc)) := (Chg.refl (· = w.heap.size) w5).setCell (.inr (show (fun x => x = w.heap.size) w.heap.size from rfl)) _
        exact ⟨k + 1, _, by omega, by go_num, HB5.out.set0 _, own_chg HO5.out hC (HB5.out.ne HO5.out (by decide)), Chg.to_ext HX5.out hC (fun q hq => by rw [show q = w.heap.size from hq]; exact Nat.le_refl _)⟩
      case measure => simp [intOf]; omega
    · obtain rfl : k = beds.length := by omega
      have HFR := HRW
      obtain ⟨ba, bc, rfl⟩ := own_shape HRW.out
      have hmk : ∀ W : World, (Instr.makeSlice 25 (.int .i64 ((most : Int) + 1)) (.int .i64 ((most : Int) + 1))).run Try.prog W = .ok (.slice (some ⟨W.heap.size, 0, none⟩) (most + 1) (most + 1)) (W.alloc (.cells (Array.replicate (most + 1) (Value.int .i64 0)) 3)) := fun W => by
        have h := run_mk (most + 1) (by omega) W
        push_cast at h
        exact h
      go_upto_region 8 with fail
      clear hmk
      obtain ⟨w6, hw6⟩ : ∃ y, y = w3.alloc (.cells (Array.replicate (most + 1) (Value.int .i64 0)) 3) := ⟨_, rfl⟩
      rw [← hw6]
      obtain ⟨R, hR⟩ : ∃ y, y = w3.heap.size := ⟨_, rfl⟩
      rw [← hR]
      have HRA : Hid (RowAt w6 R (List.replicate (most + 1) 0)) := Lib.hid (by
        unfold RowAt
        rw [show ((List.replicate (most + 1) (0 : Int)).map (Value.int .i64)).toArray = Array.replicate (most + 1) (Value.int .i64 0) by simp, hw6, hR]
        exact World.alloc_heap_new _ _)
      have HX36 : Hid (Ext w3 w6) := Lib.hid (by rw [hw6]; exact (Ext.refl w3).alloc _)
      have HRS := Lib.hid hR
      clear hw6 hR
      have HBT6 := Lib.hid (HBT.out.ext HX36.out)
      have HNR : Hid (¬ w.heap.size = R) := Lib.hid (by have := HBT.out.blk.lt; have := HRS.out; omega)
      have r0 := HRA.out.cell (k := 0) (v := 0) (by simp)
      have rf := HRA.out.blk.frozen 0
      have rl := HRA.out.blk.lt
      go_upto_region 9 with fail
      have hc1 : Chg (· = R) w6 (w6.setCell ⟨R, 0, none⟩ (.int .i64 1)) := (Chg.refl (· = R) w6).setCell (.inr (show (fun x => x = R) R from rfl)) _
      obtain ⟨w7, hw7⟩ : ∃ y, y = w6.setCell ⟨R, 0, none⟩ (.int .i64 1) := ⟨_, rfl⟩
      rw [← hw7] at hc1 ⊢
      have HRA7 : Hid (RowAt w7 R (rwO g beds most 0)) := Lib.hid (by
        rw [hw7]
        have h := HRA.out.set 0 1
        rw [List.replicate_succ, List.set_cons_zero] at h
        exact h)
      have HBT7 := Lib.hid (HBT6.out.chg hc1 HNR.out)
      have HFR7 := Lib.hid (own_chg (own_chg HFR.out (HX36.out.chg fun _ => False) fun _ _ => id) hc1 (fun q hq e => by
        have h1 := (World.ownsRow.lt HFR.out q hq).2
        have h2 := HRS.out
        have h3 : q = R := e
        omega))
      have HX7 : Hid (Ext w w7) := Lib.hid (Chg.to_ext (HX.out.trans HX36.out) hc1 (fun q hq => by rw [show q = R from hq, HRS.out]; exact HX.out.size))
      have HOR7 : Hid (OwnI w7 w.heap.size (.slice (some ⟨R, 0, none⟩) (rwO g beds most 0).length (rwO g beds most 0).length) (rwO g beds most 0)) := Lib.hid (HRA7.out.own (by rw [HRS.out]; exact HX.out.size) (by rw [rwO_len]; omega))
      have hln : (rwO g beds most 0).length = most + 1 := rwO_len g beds most 0
      rw [hln] at HOR7
      clear hw7 hc1 r0 rf rl hln HRA HX36 HBT6 HBT HX HRW
      have p2 := HBT7.out.blk.cell 2 (v := .slice none 0 0) rfl
      have pl := HBT7.out.blk.lt
      have HSZ7 := Lib.hid HX7.out.size
      go_wp2_with (at_builtin; refine wp_append_from rfl _ _ 151 25 _ 1 24 rfl info_row (by kernel_rfl) rfl (by decide) w.heap.size (.slice none 0 0) 0 [] rfl (World.ownsRow_nil _ _ _ _) (some ⟨w7.heap.size, 0, none⟩) 1 1 [.slice (some ⟨R, 0, none⟩) (most + 1) (most + 1)] rfl (fun h => by cases h) rfl ?_ ?_ (by omega) (by omega) (by have h2 := HSZ7.out; simp; omega) ?_)
      · intro ad had j' u hj
        cases had
        match j', hj with
        | 0, hj => cases hj; rw [addr_add]; exact (Blk.new w7 _ _).cell 0 rfl
      · intro u hu
        simp only [List.mem_cons, List.not_mem_nil, or_false] at hu
        rcases hu with rfl
        rfl
      intro v8 w8 hO8 hg8 hn8
      obtain ⟨va, vc, rfl⟩ := own_shape hO8
      have hal : Ext w7 (w7.alloc (.cells #[.slice (some ⟨R, 0, none⟩) (most + 1) (most + 1)] 25)) := (Ext.refl w7).alloc _
      have hx78 : Ext w7 w8 := Chg.to_ext hal hg8 (fun q e => by cases e)
      have HBT8 := Lib.hid (HBT7.out.ext hx78)
      have HFR8 := Lib.hid (own_chg HFR7.out (hx78.chg fun _ => False) fun _ _ => id)
      have HX8 := Lib.hid (HX7.out.trans hx78)
      have HRR8 : Hid (RowsO w8 w.heap.size (.slice va 1 vc) (rwsO g beds most 0)) := Lib.hid (by
        rw [rwsO_zero]
        have hr0 := rwO_len g beds most 0
        have h := RowsO.snoc (w := w7.alloc (.cells #[.slice (some ⟨R, 0, none⟩) (most + 1) (most + 1)] 25)) (w' := w8) (base := w.heap.size) (v := .slice none 0 0) (v' := .slice va 1 vc) (ws := []) (way := rwO g beds most 0) (a := some ⟨R, 0, none⟩) (c := most + 1) (vals := []) (World.ownsRow_nil _ _ _ _) rfl (fun i hi => absurd hi (by simp)) (by rw [hr0]; exact OwnI.ext HOR7.out hal) (by rw [hr0]; exact hO8) hg8
        exact h)
      have q0 := HBT8.out.blk.cell 2 (v := .slice none 0 0) rfl
      have qf := HBT8.out.blk.frozen 2
      have ql := HBT8.out.blk.lt
      clear hO8 hg8 hn8 hal hx78 p2 pl HBT7 HFR7 HX7 HOR7 HRA7
      go_upto_region 10 with fail
      have hc2 : Chg (· = w.heap.size) w8 (w8.setCell ⟨w.heap.size, 2, none⟩ (.slice va 1 vc)) := (Chg.refl (· = w.heap.size) w8).setCell (.inr (show (fun x => x = w.heap.size) w.heap.size from rfl)) _
      obtain ⟨w9, hw9⟩ : ∃ y, y = w8.setCell ⟨w.heap.size, 2, none⟩ (.slice va 1 vc) := ⟨_, rfl⟩
      rw [← hw9] at hc2 ⊢
      have HBT9 : Hid (BrdT w9 w.heap.size (.slice ba beds.length bc) g (.slice va 1 vc)) := Lib.hid (by rw [hw9]; exact HBT8.out.set2 _)
      have HFR9 := Lib.hid (own_chg HFR8.out hc2 (HBT8.out.ne HFR8.out (by decide)))
      have HRR9 := Lib.hid (HRR8.out.off HBT8.out (by decide) (by decide) hc2)
      have HX9 : Hid (Ext w w9) := Lib.hid (Chg.to_ext HX8.out hc2 (fun q hq => by rw [show q = w.heap.size from hq]; exact Nat.le_refl _))
      clear hw9 hc2 q0 qf ql HBT8 HFR8 HRR8 HX8
      go_wp2
      go_loopw [50] (fun i wr => ∃ (k : Nat) (cv : Value), k ≤ darts ∧ i = .int .i64 k ∧ BrdT wr w.heap.size (.slice ba beds.length bc) g cv ∧ RowsO wr w.heap.size cv (rwsO g beds most k) ∧ wr.ownsRow w.heap.size 124 1 (.slice ba beds.length bc) beds.length ((beds.take beds.length).map (Value.int .i64)) ∧ Ext w wr) (fun i _ => darts - (intOf i).toNat)
      case atStart => exact ⟨0, _, Nat.zero_le _, rfl, HBT9.out, HRR9.out, HFR9.out, HX9.out⟩
      case round =>
        obtain ⟨k, cv, hk, rfl, hbt, hrr, hfr, hx⟩ := hrel
        obtain ⟨w10, rfl⟩ : ∃ y, y = wr := ⟨_, rfl⟩
        have HBT := Lib.hid hbt
        have HRR := Lib.hid hrr
        have HFA := Lib.hid hfr
        have HX := Lib.hid hx
        clear hbt hrr hfr hx HBT9 HRR9 HFR9 HX9 HFR HNR HRS
        by_cases hlt : k < darts
        · have hlt' : (k : Int) < (darts : Int) := by omega
          go_upto_region 12 with fail
          have hmr : (rwO g beds most k).length = most + 1 := rwO_len g beds most k
          have hmn : (rwO g beds most (k + 1)).length = most + 1 := rwO_len g beds most (k + 1)
          have hrl : (rwsO g beds most k).length = k + 1 := rwsO_len g beds most k
          have HFB : Hid (w10.ownsRow w.heap.size 124 1 (.slice ba beds.length bc) beds.length (beds.map (Value.int .i64))) := Lib.hid (by have h := HFA.out; rw [List.take_length] at h; exact h)
          have HML := Lib.hid (And.intro hmr (And.intro hmn hrl))
          have HNX : Hid (rwO g beds most (k + 1) = rowO g beds (rwO g beds most k)) := Lib.hid rfl
          have HLS : Hid (∀ h : (rwsO g beds most k).length - 1 < (rwsO g beds most k).length, (rwsO g beds most k)[(rwsO g beds most k).length - 1] = rwO g beds most k) := Lib.hid (fun h => rwsO_last h)
          have HSU := Lib.hid (rwsO_succ g beds most k)
          obtain ⟨rows, hrows⟩ : ∃ y, rwsO g beds most k = y := ⟨_, rfl⟩
          obtain ⟨lr, hlr⟩ : ∃ y, rwO g beds most k = y := ⟨_, rfl⟩
          obtain ⟨nr, hnr⟩ : ∃ y, rwO g beds most (k + 1) = y := ⟨_, rfl⟩
          rw [hrows] at HRR HML HLS HSU
          rw [hlr] at HML HLS HNX
          rw [hnr] at HML HNX HSU
          obtain ⟨ca, cc, rfl⟩ := HRR.out.shape
          rw [HML.out.2.2] at HRR HBT
          have HSZ := Lib.hid HX.out.size
          have HWL := Lib.hid HBT.out.blk.lt
          clear hmr hmn hrl hrows hlr hnr HFA
          refine wp_region_lat (by kernel_rfl) (fun b _ => w.heap.size ≤ b) (fun k => (k == 4) || ((k == 7) || ((k == 8) || ((k == 9) || ((k == 10) || (k == 13)))))) (RBr (most + 1) (k + 1) (.slice ca (k + 1) cc)) (GBr w.heap.size w.heap.size g (.slice ba beds.length bc) (.slice ca (k + 1) cc) rows lr nr beds) (by kernel_rfl)
            (fun k hk => by
              simp only [Bool.or_eq_true, beq_iff_eq] at hk
              rcases hk with rfl | rfl | rfl | rfl | rfl | rfl <;> decide)
            (fun L L' u w' h hg => hg.congr (h 7 rfl) (h 8 rfl) (h 9 rfl) (h 10 rfl) (h 13 rfl) rfl rfl rfl rfl) (fun L u a b h hx => h.ext hx) (wBr (most + 1) (k + 1) (.slice ca (k + 1) cc)) (fun k _ => wBr_ok _ _ _ k) ⟨HBT.out.ext (Ext.refl w10).drew, own_chg HFB.out ((Ext.refl w10).drew.chg fun _ => False) fun _ _ => id, fun _ => HRR.out.ext (Ext.refl w10).drew, fun h => absurd h (by decide), fun h => absurd h (by decide), fun h => absurd h (by decide), fun h => absurd h (by decide)⟩ ?_
          intro T hT hne2 u hu
          have e_4 : u 4 = .slice ca (k + 1) cc := (hu 4 rfl).1 rfl
          obtain ⟨a7, c7, e_7⟩ := (hu 7 rfl).2.1 rfl
          obtain ⟨a8, c8, e_8⟩ := (hu 8 rfl).2.2.1 rfl
          obtain ⟨b9, e_9⟩ := (hu 9 rfl).2.2.2.1 rfl
          obtain ⟨a10, c10, e_10⟩ := (hu 10 rfl).2.2.2.2 rfl
          refine lx_next 4 (by rfl) (by decide) ?_
          dsimp only [List.take, List.drop]
          repeat (go_big_quiet_step (fail))
          refine wpQuiet_nil ?_
          refine lx_loud (by rfl) (by kernel_rfl) ?_ (fun K hK => ?_)
          · intro L w4 hL hd hcl hC hs
            obtain ⟨y, rfl⟩ := hC
            have d13 := hcl.off hL 40 13 (by kernel_rfl)
            have hb := hs.brd
            rw [d13] at hb
            have r0 := hb.blk.cell 2 (v := .slice ca (k + 1) cc) rfl
            have rl := hb.blk.lt
            have HS := Lib.hid hs
            clear hs hd hcl hL d13 hb
            go_wp2
            exact ⟨⟨fun _ => rfl, fun h => absurd h (by decide), fun h => absurd h (by decide), fun h => absurd h (by decide), fun h => absurd h (by decide)⟩, ⟨y, rfl⟩, HS.out.congr rfl rfl rfl rfl rfl rfl rfl rfl rfl⟩
          rw [e_4]
          go_simp
          with_reducible refine hK _ ?_
          clear hK K
          refine lx_next 2 (by rfl) (by decide) ?_
          dsimp only [List.take, List.drop]
          repeat (go_big_quiet_step (fail))
          refine wpQuiet_nil ?_
          refine lx_loud (by rfl) (by kernel_rfl) ?_ (fun K hK => ?_)
          · intro L w4 hL hd hcl hC hs
            obtain ⟨y, rfl⟩ := hC
            have d13 := hcl.off hL 40 13 (by kernel_rfl)
            have d10 := hcl.off hL 40 10 (by kernel_rfl)
            have hb := hs.brd
            rw [d13] at hb
            have hlast := out_last w.heap.size w.heap.size _ _ (.slice ca (k + 1) cc) rows y.world hb.blk (hs.rows_ d10) (by rw [HML.out.2.2]; omega) (by rw [HML.out.2.2]; omega)
            rw [HLS.out (by rw [HML.out.2.2]; omega), HML.out.1] at hlast
            have HLA := Lib.hid hlast
            have HS := Lib.hid hs
            clear hs hd hcl hL d13 d10 hb hlast
            go_wp2_with fail
            refine HLA.out.mono ?_
            rintro e w6 ⟨a, c, rfl, hO, hx⟩
            have HO := Lib.hid hO
            have HXX := Lib.hid hx
            clear hO hx
            go_wp2
            have h := HS.out.ext HXX.out
            exact ⟨⟨fun h => absurd h (by decide), fun _ => ⟨_, _, rfl⟩, fun h => absurd h (by decide), fun h => absurd h (by decide), fun h => absurd h (by decide)⟩, ⟨y.ext HXX.out, rfl⟩, ⟨h.brd, h.bed, h.rows_, fun _ _ => by show OwnI _ _ (.slice a (most + 1) c) lr; exact HO.out, h.row, h.box, h.rows'⟩⟩
          rw [e_7]
          go_simp
          with_reducible refine hK _ ?_
          clear hK K
          refine lx_loud (by rfl) (by kernel_rfl) ?_ (fun K hK => ?_)
          · intro L w4 hL hd hcl hC hs
            obtain ⟨y, rfl⟩ := hC
            have d13 := hcl.off hL 40 13 (by kernel_rfl)
            have d10 := hcl.off hL 40 10 (by kernel_rfl)
            have hb := hs.brd
            rw [d13] at hb
            have h7 := hs.last (hd 7 (by kernel_rfl)) d10
            rw [e_7] at h7
            have hrow := out_row w.heap.size g (.slice ca (k + 1) cc) beds lr ba a7 bc c7 y.world hb.blk (own_rd hs.bed (fun _ _ h => h)) (by rw [HML.out.1]; exact own_rd (xs := lr) (by have h := h7; unfold OwnI at h; rw [HML.out.1] at h ⊢; exact h) (fun _ _ h => h)) hl HI.out (by rw [HML.out.1]; omega)
            rw [HML.out.1, ← HNX.out] at hrow
            have HRW := Lib.hid hrow
            have HYS : Hid (w.heap.size ≤ y.world.heap.size) := Lib.hid (Nat.le_trans HSZ.out y.size)
            have HS := Lib.hid hs
            have D9 := Lib.hid (hcl.off hL 40 9 (by kernel_rfl))
            clear hs hd hcl hL d13 d10 hb hrow h7
            go_wp2_with fail
            refine HRW.out.mono ?_
            rintro e w6 ⟨a, c, rfl, hO, hx⟩
            have HO := Lib.hid (own_mono hO HYS.out)
            have HXX := Lib.hid hx
            clear hO hx
            go_wp2
            have h := HS.out.ext HXX.out
            exact ⟨⟨fun h => absurd h (by decide), fun h => absurd h (by decide), fun _ => ⟨_, _, rfl⟩, fun h => absurd h (by decide), fun h => absurd h (by decide)⟩, ⟨y.ext HXX.out, rfl⟩, ⟨h.brd, h.bed, h.rows_, h.last, fun _ _ => HO.out, fun e _ => absurd (show L 9 = true from e) (by rw [D9.out]; decide), h.rows'⟩⟩
          rw [e_8]
          go_simp
          with_reducible refine hK _ ?_
          clear hK K
          refine lx_loud (by rfl) (by kernel_rfl) ?_ (fun K hK => ?_)
          · intro L w4 hL hd hcl hC hs
            obtain ⟨y, rfl⟩ := hC
            have HS := Lib.hid hs
            clear hs hd hcl hL
            go_wp2
            have h := HS.out.ext ((Ext.refl y.world).alloc (.cells #[.slice a8 (most + 1) c8] 25))
            exact ⟨⟨fun h => absurd h (by decide), fun h => absurd h (by decide), fun h => absurd h (by decide), fun _ => ⟨_, rfl⟩, fun h => absurd h (by decide)⟩, ⟨y.ext ((Ext.refl _).alloc _), rfl⟩, ⟨h.brd, h.bed, h.rows_, h.last, h.row, fun _ _ => ⟨_, rfl, by show _ = some (u 8); rw [e_8]; exact (Blk.new y.world _ _).cell 0 rfl⟩, h.rows'⟩⟩
          rw [e_9]
          go_simp
          with_reducible refine hK _ ?_
          clear hK K
          refine lx_loud (by rfl) (by kernel_rfl) ?_ (fun K hK => ?_)
          · intro L w4 hL hd hcl hC hs
            obtain ⟨y, rfl⟩ := hC
            have d13 := hcl.off hL 40 13 (by kernel_rfl)
            have hb := hs.brd
            rw [d13] at hb
            have hb : BrdT y.world w.heap.size (.slice ba beds.length bc) g (.slice ca (k + 1) cc) := hb
            obtain ⟨bb9, e9, hbc⟩ := hs.box (hd 9 (by kernel_rfl)) hL
            obtain rfl : b9 = bb9 := by rw [e_9] at e9; cases e9; rfl
            have h8 := hs.row (hd 8 (by kernel_rfl)) hL
            rw [e_8] at h8 hbc
            have hbd := hs.bed
            obtain ⟨vals, hv1, hv2, hv3⟩ := hs.rows_ hL
            rw [HML.out.2.2] at hv1
            have HV1 := Lib.hid hv1
            have HV2 := Lib.hid hv2
            have HV3 := Lib.hid hv3
            have HBC := Lib.hid hbc
            have H8 := Lib.hid h8
            have HB := Lib.hid hb
            have HBD := Lib.hid hbd
            have D13 := Lib.hid d13
            have HYS : Hid (w.heap.size ≤ y.world.heap.size) := Lib.hid (Nat.le_trans HSZ.out y.size)
            clear hs hd hcl hL d13 hb e9 hbc h8 hbd hv1 hv2 hv3
            go_wp2_with (at_builtin; refine wp_append_from rfl _ _ 151 25 _ 1 24 rfl info_row (by kernel_rfl) rfl (by decide) w.heap.size (.slice ca (k + 1) cc) (k + 1) vals rfl HV1.out (some ⟨b9, 0, none⟩) 1 1 [.slice a8 (most + 1) c8] rfl (fun h => by cases h) rfl ?_ ?_ (by omega) (by omega) HYS.out ?_)
            · intro ad had j' u hj
              cases had
              match j', hj with
              | 0, hj => cases hj; rw [addr_add]; exact HBC.out
            · intro u hu
              simp only [List.mem_cons, List.not_mem_nil, or_false] at hu
              rcases hu with rfl
              rfl
            intro v' w6 hO6 hg6 hn6
            obtain ⟨va, vc, rfl⟩ := own_shape hO6
            have HRN : Hid (RowsO w6 w.heap.size (.slice va (k + 1 + 1) vc) (rows ++ [nr])) := Lib.hid (by
              refine RowsO.snoc (way := nr) (a := a8) (c := c8) (vals := vals) (by rw [HML.out.2.2]; exact HV1.out) HV2.out HV3.out (by rw [HML.out.2.1]; exact H8.out) (by rw [HML.out.2.2, HML.out.2.1]; exact hO6) hg6)
            have HB6 := Lib.hid (HB.out.chg hg6 (fun e => HB.out.ne HV1.out (by decide) _ e rfl))
            have HBD6 := Lib.hid (own_chg HBD.out hg6 (fun q hq e => by
              obtain ⟨_, e1⟩ := own_typeO HBD.out hq
              obtain ⟨_, e2⟩ := own_typeO HV1.out e
              rw [e1] at e2
              cases e2))
            have HG6 := Lib.hid hg6
            clear hO6 hg6 hn6
            go_wp2
            exact ⟨⟨fun h => absurd h (by decide), fun h => absurd h (by decide), fun h => absurd h (by decide), fun h => absurd h (by decide), fun _ => ⟨_, _, rfl⟩⟩, ⟨y.chgd HG6.out (fun b hb => .inr fun _ => (World.ownsRow.lt HV1.out b hb).1), rfl⟩, ⟨by show BrdT _ _ _ _ (bif L 13 then _ else _); rw [D13.out]; exact HB6.out, HBD6.out, fun h => Bool.noConfusion (show true = false from h), fun _ h => Bool.noConfusion (show true = false from h), fun _ h => Bool.noConfusion (show true = false from h), fun _ h => Bool.noConfusion (show true = false from h), fun _ => HRN.out⟩⟩
          rw [e_10]
          go_simp
          with_reducible refine hK _ ?_
          clear hK K
          refine lx_next 2 (by rfl) (by decide) ?_
          dsimp only [List.take, List.drop]
          repeat (go_big_quiet_step (fail))
          refine wpQuiet_nil ?_
          refine lx_loud (by rfl) (by kernel_rfl) ?_ (fun K hK => ?_)
          · intro L w4 hL hd hcl hC hs
            obtain ⟨y, rfl⟩ := hC
            have h10 := hd 10 (by kernel_rfl)
            have hb := hs.brd
            rw [hL] at hb
            have hb : BrdT y.world w.heap.size (.slice ba beds.length bc) g (.slice ca (k + 1) cc) := hb
            have hr' := hs.rows' h10
            rw [e_10] at hr'
            have r0 := hb.blk.cell 2 (v := .slice ca (k + 1) cc) rfl
            have rf := hb.blk.frozen 2
            have rl := hb.blk.lt
            have HB := Lib.hid hb
            have HBD := Lib.hid hs.bed
            have HRP := Lib.hid hr'
            have H10 := Lib.hid h10
            clear hs hd hcl hL h10 hb hr'
            go_wp2
            have hC : Chg (· = w.heap.size) y.world (y.world.setCell ⟨w.heap.size, 2, none⟩ (.slice a10 (k + 1 + 1) c10)) := (Chg.refl (· = w.heap.size) y.world).setCell (.inr (show (fun x => x = w.heap.size) w.heap.size from rfl)) _
            have h10 := H10.out
            exact ⟨⟨fun h => absurd h (by decide), fun h => absurd h (by decide), fun h => absurd h (by decide), fun h => absurd h (by decide), fun h => absurd h (by decide)⟩, ⟨y.chgd hC (fun b hb => .inr fun _ => by rw [show b = w.heap.size from hb]; exact Nat.le_refl _), rfl⟩, ⟨by show BrdT _ _ _ _ (bif upd L 13 13 then u 10 else _); rw [show upd L 13 13 = true from rfl, e_10]; exact HB.out.set2 _, own_chg HBD.out hC (HB.out.ne HBD.out (by decide)), (fun h => by have h : L 10 = false := h; rw [h10] at h; cases h), (fun _ h => by have h : L 10 = false := h; rw [h10] at h; cases h), (fun _ h => by have h : L 10 = false := h; rw [h10] at h; cases h), (fun _ h => by have h : L 10 = false := h; rw [h10] at h; cases h), fun _ => by show RowsO _ _ (u 10) _; rw [e_10]; exact HRP.out.off HB.out (by decide) (by decide) hC⟩⟩
          go_simp
          with_reducible refine hK _ ?_
          clear hK K
          refine lx_nil ?_
          intro y hs
          have hb := hs.brd
          have hb : BrdT y.world w.heap.size (.slice ba beds.length bc) g (u 10) := hb
          have hr' := hs.rows' rfl
          rw [← HSU.out] at hr'
          have HBN := Lib.hid hb
          have HRN := Lib.hid hr'
          have HBDN := Lib.hid hs.bed
          have HXN : Hid (Ext w y.world) := Lib.hid (Chg.to_ext HX.out y.chg (by rintro q ⟨_, e⟩; exact e))
          clear hs hb hr'
          generalize y.world = w11 at *
          clear y
          go_wp2
          go_roundw
          case rel => exact ⟨k + 1, u 10, by omega, by go_num, HBN.out, HRN.out, by rw [List.take_length]; exact HBDN.out, HXN.out⟩
          case measure => simp [intOf]; omega
        · obtain rfl : k = darts := by omega
          go_wp2
          go_ret
          rw [List.take_length] at HFA
          exact ⟨_, ba, bc, cv, rfl, Nat.le_refl _, HBT.out.blk, HFA.out, HRR.out, HX.out⟩
end Go.Proofs.Ytpifdeglhalefaa
