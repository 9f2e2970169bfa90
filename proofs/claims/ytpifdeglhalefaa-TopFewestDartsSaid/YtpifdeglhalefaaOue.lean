/-
  Package out: how many ways there are with one bed more.
-/
import Derived.Test.YtpifdeglhalefaaOud
import Derived.Test.YtpifdeglhalefaaRbx
import Derived.Test.YtpifdeglhalefaaRcj
import Derived.Deep.CutBlock
import Derived.Deep.DeepCutAuto
namespace Go.Proofs.Ytpifdeglhalefaa
open Go.RowKit Go.BigFrame
attribute [local go_sem] Oper.semAt_some Later.cell Later.frozen Lat.cell Lat.frozen NoX
/-- Zeros. -/
theorem made_zero (n : Nat) : madeCells #[.int .i64 0] n = Array.replicate n (Value.int .i64 0) := by
  apply Array.ext
  · rw [size_madeCells]; simp
  · intro i h1 h2
    simp [madeCells, Nat.mod_one]
theorem run_mk (n : Nat) (hn : n ≤ 100000) (W : World) : (Instr.makeSlice 25 (.int .i64 n) (.int .i64 n)).run Try.prog W = .ok (.slice (some ⟨W.heap.size, 0, none⟩) n n) (W.alloc (.cells (Array.replicate n (Value.int .i64 0)) 3)) := by
  obtain ⟨i0, hi, hz0, hz1, hz2⟩ := info_parts info_int
  have h := run_makeSlice (P := Try.prog) W 25 3 i0 (.int .i64 0) (by kernel_rfl) hi hz0 .i64 .i64 n n (by omega) (Int.le_refl _) (by rw [hz1]; simp; omega) (by rw [hz2]; push_cast; omega) (by omega)
  rw [hz1] at h
  simp only [Int.toNat_natCast, Nat.mul_one] at h
  rw [h]
  have e : (Value.int .i64 0).cells = #[.int .i64 0] := rfl
  rw [e, made_zero]
/-- A row of integers in a block. -/
def RowAt (W : World) (R : Nat) (l : List Int) : Prop := W.heap[R]? = some (.cells (l.map (Value.int .i64)).toArray 3 (0, 0))
theorem RowAt.blk {W : World} {R : Nat} {l : List Int} (h : RowAt W R l) : Blk W R (l.map (Value.int .i64)).toArray := ⟨_, h⟩
theorem RowAt.ext {W W' : World} {R : Nat} {l : List Int} (h : RowAt W R l) (hx : Ext W W') : RowAt W' R l := hx.heap h
theorem RowAt.cell {W : World} {R : Nat} {l : List Int} (h : RowAt W R l) {k : Nat} {v : Int} (hk : l[k]? = some v) : W.cell? ⟨R, k, none⟩ = some (.int .i64 v) := h.blk.cell k (by simp [hk])
theorem RowAt.set {W : World} {R : Nat} {l : List Int} (h : RowAt W R l) (k : Nat) (v : Int) : RowAt (W.setCell ⟨R, k, none⟩ (.int .i64 v)) R (l.set k v) := by
  obtain ⟨hlt, he⟩ := Array.getElem?_eq_some_iff.1 h
  unfold RowAt
  simp only [World.setCell]
  rw [Array.getElem?_eq_getElem (by rw [Array.size_modify]; exact hlt), Array.getElem_modify_self, he]
  simp [List.map_set]
theorem RowAt.own {W : World} {R base : Nat} {l : List Int} (h : RowAt W R l) (hb : base ≤ R) (hl : l.length ≤ 100000) : OwnI W base (.slice (some ⟨R, 0, none⟩) l.length l.length) l :=
  ⟨by simp, .inr ⟨R, l.length, _, rfl, hb, h, Nat.le_refl _, by unfold maxLen; omega, by simp, by simp only [Nat.mul_one]; exact List.take_of_length_le (by simp)⟩⟩
theorem rd_off {R : Nat} {w : World} {v : Value} {xs : List Int} (h : RdI S0 w v xs) (hR : w.heap.size ≤ R) : RdI (· = R) w v xs := by
  rcases h with h | ⟨b, o, c, cs, t, f, h1, h2, h3, h4, h5, h6⟩
  · exact .inl h
  · exact .inr ⟨b, o, c, cs, t, f, h1, h2, h3, by have := (Array.getElem?_eq_some_iff.1 h5).1; omega, h5, h6⟩
theorem kf_chgR {R base : Nat} {A B : World} (h : Chg (· = R) A B) (hR : R < base) : KeepsFrom base A B := ⟨h.size, fun k o hB hk _ => h.heap hk (by omega)⟩
/-- A row while it is counted. -/
def rwP (g : Int) (beds before : List Int) (k : Nat) (a : Int) : List Int := (rowO g beds before).take k ++ a :: List.replicate (before.length - 1 - k) 0
theorem rwP_len {g : Int} {beds before : List Int} {k : Nat} (hk : k < before.length) (a : Int) : (rwP g beds before k a).length = before.length := by
  unfold rwP
  rw [List.length_append, List.length_take, rowO_len, List.length_cons, List.length_replicate]
  omega
theorem rwP_at {g : Int} {beds before : List Int} {k : Nat} (hk : k < before.length) (a : Int) : (rwP g beds before k a)[k]? = some a := by
  unfold rwP
  have h : ((rowO g beds before).take k).length = k := by rw [List.length_take, rowO_len]; omega
  rw [List.getElem?_append_right (by omega), h, Nat.sub_self]
  rfl
theorem rwP_set {g : Int} {beds before : List Int} {k : Nat} (hk : k < before.length) (a b : Int) : (rwP g beds before k a).set k b = rwP g beds before k b := by
  unfold rwP
  have h : ((rowO g beds before).take k).length = k := by rw [List.length_take, rowO_len]; omega
  rw [List.set_append_right _ _ (by omega), h, Nat.sub_self]
  rfl
theorem rwP_next {g : Int} {beds before : List Int} {k : Nat} (hk : k < before.length) : rwP g beds before k (sumL before (thwO g beds (k : Int)) 0) = (rowO g beds before).take (k + 1) ++ List.replicate (before.length - (k + 1)) 0 := by
  unfold rwP
  rw [List.take_succ_eq_append_getElem (by rw [rowO_len]; exact hk), List.append_assoc]
  have h : (rowO g beds before)[k]'(by rw [rowO_len]; exact hk) = sumL before (thwO g beds (k : Int)) 0 := by unfold rowO; simp
  rw [h, show before.length - 1 - k = before.length - (k + 1) by omega]
  rfl
theorem rwP_start {g : Int} {beds before : List Int} {k : Nat} (hk : k < before.length) : (rowO g beds before).take k ++ List.replicate (before.length - k) 0 = rwP g beds before k 0 := by
  unfold rwP
  rw [show before.length - k = (before.length - 1 - k) + 1 by omega, List.replicate_succ]
theorem sumL_snoc (before : List Int) (l : List (Int × Int)) (p : Int × Int) (a : Int) : sumL before (l ++ [p]) a = wrap64 (sumL before l a + before.getD p.2.toNat 0) := by unfold sumL; rw [List.foldl_append]; rfl
set_option maxRecDepth 100000 in
set_option maxHeartbeats 8000000 in
theorem out_row (B : Nat) (g : Int) (v2 : Value) (beds before : List Int) (ba fa : Option Addr) (bc fc : Nat) (w : World) (hB : Blk w B #[.slice ba beds.length bc, .int .i64 g, v2]) (hR : RdI S0 w (.slice ba beds.length bc) beds) (hF : RdI S0 w (.slice fa before.length fc) before) (hl : beds.length ≤ 1000) (hi : ∀ x ∈ beds, I64 x ∧ 1 ≤ wrt x ∧ wrt x ≤ 100) (hn : before.length ≤ 2000) :
    Calls Try.prog 68 #[.pointer (some ⟨B, 0, none⟩), .slice fa before.length fc] w fun e w' => ∃ a c, e = .returned (.slice a before.length c) ∧ OwnI w' w.heap.size (.slice a before.length c) (rowO g beds before) ∧ Ext w w' := by
  refine (callsIn_wide (n := 8)).1 ?_
  have HB := Lib.hid hB
  have HR := Lib.hid hR
  have HF := Lib.hid hF
  have HI := Lib.hid hi
  have HLB := Lib.hid hl
  clear hB hR hF hi hl
  refine callsIn_of_wp_marks Try.func68 rfl trivial ?_ rfl
  simp only [Try.ntmps68, List.size_toArray, List.length_cons, List.length_nil, Nat.reduceAdd, Nat.reduceSub, Array.replicate_succ, Array.replicate_zero, List.push_toArray, List.append_toArray, List.nil_append, List.cons_append]
  have hmk := fun W => run_mk before.length (by omega) W
  gi_wp2
  clear hmk
  obtain ⟨w1, hw1⟩ : ∃ y, y = ((w.alloc (.cells #[.slice fa before.length fc] 25)).alloc (.cells (Array.replicate before.length (Value.int .i64 0)) 3)).alloc (.cells #[.slice (some ⟨w.heap.size + 1, 0, none⟩) before.length before.length] 25) := ⟨_, rfl⟩
  rw [← hw1]
  have HX1 : Hid (Ext w w1) := Lib.hid (by rw [hw1]; exact (((Ext.refl w).alloc _).alloc _).alloc _)
  have HP3 : Hid (Blk w1 w.heap.size #[.slice fa before.length fc]) := Lib.hid (by rw [hw1]; exact ((Blk.new w _ _).alloc _).alloc _)
  have HP5 : Hid (Blk w1 (w.heap.size + 1 + 1) #[.slice (some ⟨w.heap.size + 1, 0, none⟩) before.length before.length]) := Lib.hid (by rw [hw1]; exact Blk.at _ (by simp))
  have HRW : Hid (RowAt w1 (w.heap.size + 1) (List.replicate before.length 0)) := Lib.hid (by
    rw [hw1]
    have h : RowAt ((w.alloc (.cells #[.slice fa before.length fc] 25)).alloc (.cells (Array.replicate before.length (Value.int .i64 0)) 3)) (w.heap.size + 1) (List.replicate before.length 0) := by
      unfold RowAt
      rw [show ((List.replicate before.length (0 : Int)).map (Value.int .i64)).toArray = Array.replicate before.length (Value.int .i64 0) by simp]
      have := World.alloc_heap_new (w.alloc (.cells #[.slice fa before.length fc] 25)) (.cells (Array.replicate before.length (Value.int .i64 0)) 3)
      rwa [World.size_alloc] at this
    exact h.ext ((Ext.refl _).alloc _))
  have HSZ1 : Hid (w1.heap.size = w.heap.size + 3) := Lib.hid (by rw [hw1]; simp)
  clear hw1
  obtain ⟨K3, hK3⟩ : ∃ y, y = w.heap.size := ⟨_, rfl⟩
  obtain ⟨R, hR⟩ : ∃ y, y = w.heap.size + 1 := ⟨_, rfl⟩
  obtain ⟨K5, hK5⟩ : ∃ y, y = w.heap.size + 1 + 1 := ⟨_, rfl⟩
  rw [← hK5, ← hR, ← hK3]
  rw [← hK3] at HP3
  rw [← hK5, ← hR] at HP5
  rw [← hR] at HRW
  have HKS := Lib.hid (And.intro hK3 (And.intro hR hK5))
  clear hK3 hR hK5
  have HRB : Hid (RdI (· = R) w1 (.slice ba beds.length bc) beds) := Lib.hid ((rd_off HR.out (by have := HKS.out; omega)).keep (Kc.of_ext HX1.out))
  have HRF : Hid (RdI (· = R) w1 (.slice fa before.length fc) before) := Lib.hid ((rd_off HF.out (by have := HKS.out; omega)).keep (Kc.of_ext HX1.out))
  have HBB := Lib.hid (HB.out.ext HX1.out)
  have HNE : Hid (B ≠ R ∧ K3 ≠ R ∧ K5 ≠ R ∧ R < w1.heap.size ∧ w.heap.size ≤ R) := Lib.hid (by have h1 := HB.out.lt; have h2 := HKS.out; have h3 := HSZ1.out; omega)
  refine wpIn_loop (fun a' W => ∃ (x6 x7 x8 x15 x16 x17 x18 x19 x20 x21 x22 x23 x24 x25 x26 x27 x28 x29 x30 x31 x32 x33 : Value) (k : Nat) (dsn : List Nat), (k ≤ before.length ∧ RowAt W R ((rowO g beds before).take k ++ List.replicate (before.length - k) 0) ∧ Chg (· = R) w1 W ∧ Marks w1.heap.size W dsn) ∧ a' = { tmps := #[.pointer (some ⟨B, 0, none⟩), .slice fa before.length fc, undef, .pointer (some ⟨K3, 0, none⟩), .slice none 0 0, .pointer (some ⟨K5, 0, none⟩), x6, x7, x8, .slice fa before.length fc, .int .i64 before.length, .slice (some ⟨R, 0, none⟩) before.length before.length, .slice (some ⟨R, 0, none⟩) before.length before.length, .int .i64 before.length, .int .i64 (k : Nat), x15, x16, x17, x18, x19, x20, x21, x22, x23, x24, x25, x26, x27, x28, x29, x30, x31, x32, x33], defers := dsn.map markOf }) (fun a' _ => before.length - (intOf (a'.tmps.getD 14 undef)).toNat) ⟨_, _, _, _, _, _, _, _, _, _, _, _, _, _, _, _, _, _, _, _, _, _, 0, [], ⟨Nat.zero_le _, by simpa using HRW.out, Chg.refl _ _, Marks.nil _ _⟩, rfl⟩ ?_
  rintro a' wr ⟨x6, x7, x8, x15, x16, x17, x18, x19, x20, x21, x22, x23, x24, x25, x26, x27, x28, x29, x30, x31, x32, x33, k, dsn, ⟨hk, hrow, hch, hmk⟩, rfl⟩
  have HROW := Lib.hid hrow
  have HCH := Lib.hid hch
  have HMK := Lib.hid hmk
  clear hrow hch hmk
  dsimp only
  by_cases hlt : k < before.length
  · have hlt' : (k : Int) < (before.length : Int) := by omega
    gi_wp2_with fail
    refine ⟨trivial, (callsIn_wide.2 (out_throws B k _)).mono ?_⟩
    rintro e w5 ⟨kp, ks, rfl, hkk, hb1, hb2, hx5⟩
    obtain ⟨K6, hK6⟩ : ∃ y, y = wr.heap.size := ⟨_, rfl⟩
    rw [← hK6]
    have HA6 : Hid (Blk w5 K6 #[.int .i64 k]) := Lib.hid (by rw [hK6]; exact (Blk.new wr _ _).ext hx5)
    have HX15 : Hid (Ext wr w5) := Lib.hid (((Ext.refl wr).alloc _).trans hx5)
    have HCH5 : Hid (Chg (· = R) w1 w5) := Lib.hid (HCH.out.trans (HX15.out.chg _))
    have HROW5 := Lib.hid (HROW.out.ext HX15.out)
    have HMK5 : Hid (Marks w1.heap.size w5 dsn) := Lib.hid ⟨HMK.out.nodup, fun D hD => ⟨(HMK.out.all D hD).1, HX15.out.heap (HMK.out.all D hD).2⟩⟩
    have HMB : Hid (∀ D ∈ dsn, D < w5.heap.size) := Lib.hid (fun D hD => Nat.lt_of_lt_of_le (Array.getElem?_eq_some_iff.1 (HMK.out.all D hD).2).1 HX15.out.size)
    have HW5 : Hid (w1.heap.size ≤ wr.heap.size ∧ wr.heap.size + 1 ≤ w5.heap.size) := Lib.hid ⟨HCH.out.size, by have := hx5.size; simpa using this⟩
    have HN6 : Hid (K6 ≠ R ∧ kp ≠ R ∧ ks ≠ R) := Lib.hid (by
      have h1 := HNE.out; have h2 := HCH.out.size; have h3 := hkk
      simp at h3
      omega)
    have HSEQ := Lib.hid (throws_seq (· = R) 7 B kp ks g k v2 beds ba bc w5 ⟨HNE.out.1, HN6.out.2.1, HN6.out.2.2⟩ (fun q hq => by have h1 := HNE.out; have h2 := HW5.out; omega) (HBB.out.chg HCH5.out (by have := HNE.out.1; exact this)) hb1 hb2 (HRB.out.keep (Kc.of_chg HCH5.out)) HLB.out (fun x hx => by
      have h := HI.out x hx
      exact ⟨h.1, ⟨by omega, by omega⟩⟩))
    clear hkk hb1 hb2 hx5 hK6
    gi_wp2
    refine wpIn_rangeFunc_b (α := Int × Int) (by decide) (gf := 70) (fb := #[]) (lb := #[.pointer (some ⟨kp, 0, none⟩), .pointer (some ⟨ks, 0, none⟩)]) rfl enters_throws1 HSEQ.out Kc.trans (fun W l o o' _ h ho _ => Kc.put _ W l o o' h ho) (fun _ => rfl)
      (fun pre W => RowAt W R (rwP g beds before k (sumL before pre 0)) ∧ Chg (· = R) w5 W) ?hI ?hV ?h0
      (fun x a' _ => a' = { tmps := #[.pointer (some ⟨B, 0, none⟩), .slice fa before.length fc, undef, .pointer (some ⟨K3, 0, none⟩), .slice none 0 0, .pointer (some ⟨K5, 0, none⟩), .pointer (some ⟨K6, 0, none⟩), x7, .int .i64 x.2, .slice fa before.length fc, .int .i64 before.length, .slice (some ⟨R, 0, none⟩) before.length before.length, .slice (some ⟨R, 0, none⟩) before.length before.length, .int .i64 before.length, .int .i64 (k : Nat), .bool true, .int .i64 (k : Nat), .pointer (some ⟨B, 0, none⟩), .int .i64 (k : Nat), .func (.func 70) #[] #[.pointer (some ⟨kp, 0, none⟩), .pointer (some ⟨ks, 0, none⟩)], .agg #[.int .i64 x.1], .int .i64 x.2, x22, x23, x24, x25, x26, x27, x28, x29, x30, x31, x32, x33], defers := [] }) ?hAx ?assign ?body ?done
    case hI =>
      rintro pre A C row ⟨h1, h2⟩ hg hr
      refine ⟨(hg.block R (Array.getElem?_eq_some_iff.1 h1).1 (fun e => ?_)).trans h1, ⟨hg.os.trans h2.os, hg.tape.trans h2.tape, hg.output.trans h2.output, Nat.le_trans h2.size hg.size, fun q hq hs => (hg.block q (Nat.lt_of_lt_of_le hq h2.size) (fun e => ?_)).trans (h2.block q hq hs)⟩⟩
      · have h3 := (hr R e.symm).1
        have h4 := HNE.out
        have h5 := HW5.out
        omega
      · have h3 := (hr q e.symm).1
        omega
    case hV => intro pre x u A C row h _ _; exact h
    case h0 => exact ⟨by have h := HROW5.out; rw [rwP_start hlt] at h; exact h, Chg.refl _ _⟩
    case hAx => intro x a' u A C row h _ _; exact h
    case assign =>
      intro l pre x W K hi hv hK
      have HKK := Lib.hid (hK _ W (KeepsFrom.refl _ _) (Kc.refl _ _) hi hv rfl)
      clear hK hi hv
      dsimp only
      gi_wp2
      exact HKK.out
    case body =>
      rintro l pre ⟨xb, xl⟩ a' W ⟨hrow, hc⟩ hv rfl
      obtain ⟨hv1, hv2, hv3, hv4⟩ := thwO_mem hv
      dsimp only at hv1 hv2 hv3 ⊢
      have hwr := HI.out xb hv1
      have hx0 : 0 ≤ xl ∧ xl < (k : Int) := by
        unfold aftB at hv3
        rw [hv2]
        refine ⟨?_, by omega⟩
        split at hv3
        · omega
        · split at hv3
          · omega
          · simp at hv3; omega
      obtain ⟨q, rfl⟩ := Int.eq_ofNat_of_zero_le hx0.1
      have hqn : q < before.length := by omega
      have hqn' : (q : Int) < (before.length : Int) := by omega
      have hgd : before.getD (q : Int).toNat 0 = before[q] := by simp [hqn]
      obtain ⟨av, hav⟩ : ∃ y, sumL before pre 0 = y := ⟨_, rfl⟩
      have HSN : Hid (sumL before (pre ++ [(xb, (q : Int))]) 0 = wrap64 (av + before[q])) := Lib.hid (by rw [sumL_snoc, hav, hgd])
      rw [hav] at hrow
      have HRO := Lib.hid hrow
      have HC := Lib.hid hc
      have KY : ∀ y : Lat (fun b _ => b = R) W, Chg (· = R) W y.world := fun y => y.chg.mono (by rintro q - ⟨_, e⟩; exact e)
      obtain ⟨bv, hbv⟩ : ∃ y, before[q] = y := ⟨_, rfl⟩
      rw [hbv] at HSN
      obtain ⟨fb, fo, rfl, hfb⟩ : ∃ fb fo, fa = some ⟨fb, fo, none⟩ ∧ ∀ y : Lat (fun b _ => b = R) W, y.world.cell? ⟨fb, fo + q, none⟩ = some (.int .i64 bv) := by
        rcases HRF.out with ⟨e, e2⟩ | ⟨fb, fo, c, cs, t, f, h1, h2, h3, h4, h5, h6⟩
        · rw [e2] at hqn; simp at hqn
        · cases h1
          refine ⟨fb, fo, rfl, fun y => ?_⟩
          have h7 := (((HCH5.out.trans HC.out).trans (KY y)).heap h5 h4)
          have h8 := h6 q hqn
          rw [hbv] at h8
          simp [World.cell?, h7, h8]
      have m5 : ∀ y : Lat (fun b _ => b = R) W, y.world.cell? ⟨K5, 0, none⟩ = some (.slice (some ⟨R, 0, none⟩) before.length before.length) := fun y => (HP5.out.chg ((HCH5.out.trans HC.out).trans (KY y)) HNE.out.2.2.1).cell 0 rfl
      have m3 : ∀ y : Lat (fun b _ => b = R) W, y.world.cell? ⟨K3, 0, none⟩ = some (.slice (some ⟨fb, fo, none⟩) before.length fc) := fun y => (HP3.out.chg ((HCH5.out.trans HC.out).trans (KY y)) HNE.out.2.1).cell 0 rfl
      have m6 : ∀ y : Lat (fun b _ => b = R) W, y.world.cell? ⟨K6, 0, none⟩ = some (.int .i64 k) := fun y => (HA6.out.chg (HC.out.trans (KY y)) HN6.out.1).cell 0 rfl
      have l5 : K5 < W.heap.size := (HP5.out.chg (HCH5.out.trans HC.out) HNE.out.2.2.1).lt
      have l3 : K3 < W.heap.size := (HP3.out.chg (HCH5.out.trans HC.out) HNE.out.2.1).lt
      have l6 : K6 < W.heap.size := (HA6.out.chg HC.out HN6.out.1).lt
      have lf : fb < W.heap.size := by
        rcases HRF.out with ⟨e, e2⟩ | ⟨fb', fo', c, cs, t, f, h1, h2, h3, h4, h5, h6⟩
        · cases e
        · cases h1
          exact Nat.lt_of_lt_of_le (Array.getElem?_eq_some_iff.1 h5).1 (HCH5.out.trans HC.out).size
      have lr : R < W.heap.size := (Array.getElem?_eq_some_iff.1 hrow).1
      have HKLT := Lib.hid hlt
      clear hrow hc hv hv1 hv2 hv3 hv4 hwr hx0 hgd hav hbv HSEQ HRF
      gi_upto_region 7 with fail
      refine wpIn_lat_r l (by kernel_rfl) (by kernel_rfl) (fun b _ => b = R) (fun k => (k == 3) || (k == 10)) (RsIs [(3, .int .i64 av)]) (fun L _ W => RowAt W R (rwP g beds before k (bif L 10 then wrap64 (av + bv) else av))) (by kernel_rfl)
        (fun k hk => by
          simp only [Bool.or_eq_true, beq_iff_eq] at hk
          rcases hk with rfl | rfl <;> decide)
        (fun L L' u w' h hg => by rw [h 10 (by rfl)]; exact hg) (fun L u a b h hx => h.ext hx) (rsW [(3, .int .i64 av)]) (fun k _ => rsW_ok _ k) (HRO.out.ext (Ext.refl W).drew) ?_
      intro T hT hne2 u hu
      have e_3 : u 3 = .int .i64 av := hu 3 rfl
      refine lx_next 3 (by rfl) (by decide) ?_
      dsimp only [List.take, List.drop]
      repeat (go_big_quiet_step (fail))
      refine wpQuiet_nil ?_
      refine lx_loud (by rfl) (by kernel_rfl) ?_ (fun K hK => ?_)
      · intro L w4 hL hd hcl hC hs
        obtain ⟨y, rfl⟩ := hC
        have d10 := hcl.off hL 40 10 (by kernel_rfl)
        rw [d10] at hs
        have hs : RowAt y.world R (rwP g beds before k av) := hs
        have r0 := hs.cell (rwP_at HKLT.out av)
        have rl := hs.blk.lt
        have HS := Lib.hid hs
        have D10 := Lib.hid d10
        clear hs hd hcl hL d10
        go_wp2
        exact ⟨rfl, ⟨y, rfl⟩, by rw [show upd L 3 10 = L 10 from rfl, D10.out]; exact HS.out⟩
      rw [e_3]
      go_simp
      with_reducible refine hK _ ?_
      clear hK K
      refine lx_next 6 (by rfl) (by decide) ?_
      dsimp only [List.take, List.drop]
      repeat (go_big_quiet_step (fail))
      refine wpQuiet_nil ?_
      refine lx_loud (by rfl) (by kernel_rfl) ?_ (fun K hK => ?_)
      · intro L w4 hL hd hcl hC hs
        obtain ⟨y, rfl⟩ := hC
        rw [hL] at hs
        have hs : RowAt y.world R (rwP g beds before k av) := hs
        have r0 := hs.cell (rwP_at HKLT.out av)
        have rf0 := hs.blk.frozen k
        have rl := hs.blk.lt
        have HS := Lib.hid hs
        clear hs hd hcl hL
        go_wp2
        have hb0 := HS.out.set k (wrap64 (av + bv))
        rw [rwP_set HKLT.out] at hb0
        exact ⟨trivial, ⟨y.chgd ((Chg.refl (· = R) y.world).setCell (.inr rfl) (.int .i64 (wrap64 (av + bv)))) (fun b hb => .inr fun _ => hb), rfl⟩, by rw [show upd L 10 10 = true from rfl]; exact hb0⟩
      go_simp
      with_reducible refine hK _ ?_
      clear hK K
      refine lx_nil ?_
      intro y hs
      have HT : Hid (RowAt y.world R (rwP g beds before k (wrap64 (av + bv)))) := Lib.hid hs
      have HCY : Hid (Chg (· = R) W y.world) := Lib.hid (KY y)
      clear hs hu hT hne2 e_3 m3 m5 m6 hfb KY
      generalize y.world = w9 at *
      clear y
      gi_wp2
      exact ⟨kf_chgR HCY.out (by have h1 := HNE.out; have h2 := HW5.out; omega), Kc.of_chg HCY.out, by rw [HSN.out]; exact HT.out, HC.out.trans HCY.out⟩
    case done =>
      rintro Dm xs W hD rfl ⟨hrow, hc⟩ hk2
      have HROWF : Hid (RowAt W R ((rowO g beds before).take (k + 1) ++ List.replicate (before.length - (k + 1)) 0)) := Lib.hid (by rw [← rwP_next hlt]; exact hrow)
      have HCF := Lib.hid (HCH5.out.trans hc)
      have HMF : Hid (Marks w1.heap.size W (Dm :: dsn)) := Lib.hid ((HMK5.out.chg hc (fun D hD e => by have h1 := (HMK5.out.all D hD).1; have h2 := HNE.out; omega)).cons (fun h => by have := HMB.out Dm h; omega) (by have := HW5.out; omega) hk2)
      clear hrow hc hk2 hD
      dsimp only
      gi_wp2
      rw [show ((k : Int) + 1) = ((k + 1 : Nat) : Int) by omega]
      exact ⟨⟨_, _, _, _, _, _, _, _, _, _, _, _, _, _, _, _, _, _, _, _, _, _, k + 1, Dm :: dsn, ⟨by omega, HROWF.out, HCF.out, HMF.out⟩, rfl⟩, by simp [intOf]; omega⟩
  · obtain rfl : k = before.length := by omega
    have HFIN : Hid (RowAt wr R (rowO g beds before)) := Lib.hid (by
      have h := HROW.out
      rw [Nat.sub_self, List.replicate_zero, List.append_nil, List.take_of_length_le (by rw [rowO_len]; exact Nat.le_refl _)] at h
      exact h)
    have p5 := (HP5.out.chg HCH.out HNE.out.2.2.1).cell 0 (v := .slice (some ⟨R, 0, none⟩) before.length before.length) rfl
    have pl := (HP5.out.chg HCH.out HNE.out.2.2.1).lt
    gi_wp2
    show LeavesInM _ _ _ _ _ _ (dsn.map markOf) .returning _
    refine ret_mN (v := .slice (some ⟨R, 0, none⟩) before.length before.length) (lo := w1.heap.size) (w := wr) dsn wr .refl HMK.out ?_
    intro W' hsh
    refine ⟨by simp [results, Try.results68, go_sem], some ⟨R, 0, none⟩, before.length, rfl, ?_, Chg.to_ext HX1.out (hsh.chg HCH.out (Nat.le_refl _)) (fun i e => by rw [show i = R from e]; exact HNE.out.2.2.2.2)⟩
    have h : RowAt W' R (rowO g beds before) := hsh.heap HFIN.out (by intro e; cases e)
    have h2 := h.own (base := w.heap.size) HNE.out.2.2.2.2 (by rw [rowO_len]; omega)
    rw [rowO_len] at h2
    exact h2
end Go.Proofs.Ytpifdeglhalefaa
