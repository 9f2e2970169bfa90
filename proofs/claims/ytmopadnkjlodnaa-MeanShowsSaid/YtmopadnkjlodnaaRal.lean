/-
  The reference of chapter 6: All, by induction on the darts that are left.
-/
import Derived.Test.YtmopadnkjlodnaaPal
import Derived.Test.YtmopadnkjlodnaaPxa
import Derived.Deep.DeepCutAuto
namespace Go.Proofs.Ytmopadnkjlodnaa
open Go.RowKit Go.BigFrame
attribute [local go_sem] Oper.semAt_some Later.cell Later.frozen Lat.cell Lat.frozen
theorem Frm.low {lo : Nat} {rs : List Res} {w w' : World} (h : Frm lo rs w) {S : Nat → Prop} (hx : Chg S w w') (hS : ∀ k, S k → k < lo) : Frm lo rs w' :=
  ⟨fun i r hr => let h1 := h.each i r hr; ⟨r.stable _ _ (fun k hk => hx.block k (h1.2 k hk).2 fun hs => by have := hS k hs; have := (h1.2 k hk).1; omega) h1.1, fun k hk => by have := h1.2 k hk; have := hx.size; omega⟩, h.parts⟩
/-- While a visit is made longer, and looked into. -/
structure AllG (base N : Nat) (W0 : World) (v : Value) (F new : List Vi) (fb : List Int) (b : Int) (L : Nat → Bool) (u : Nat → Value) (W : World) : Prop where
  old : L 19 = false → Ext W0 W
  frm : Frm N [bif L 13 then Res.own N 99 1 (u 13) (fb.length + 1) (fb.map (Value.int .i64) ++ [.int .i64 b]) else bif L 10 then Res.own N 99 1 (u 10) fb.length (fb.map (Value.int .i64)) else bif L 7 then Res.own N 99 1 (u 7) 0 [] else Res.none, bif L 12 then Res.own N 99 1 (u 12) 1 [.int .i64 b] else Res.none] W
  new_ : L 19 = true → VLs W base (u 19) (F ++ new) ∧ Chg (fun k => v.ownBlock = some k) W0 W ∧ ∀ k, (u 19).ownBlock = some k → v.ownBlock = some k ∨ N ≤ k
theorem AllG.ext {base N : Nat} {W0 : World} {v : Value} {F new : List Vi} {fb : List Int} {b : Int} {L : Nat → Bool} {u : Nat → Value} {W W' : World} (h : AllG base N W0 v F new fb b L u W) (hx : Ext W W') : AllG base N W0 v F new fb b L u W' :=
  ⟨fun e => (h.old e).trans hx, h.frm.ext hx, fun e => let ⟨h1, h2, h3⟩ := h.new_ e; ⟨h1.ext hx, h2.ext' hx, h3⟩⟩
theorem AllG.congr {base N : Nat} {W0 : World} {v : Value} {F new : List Vi} {fb : List Int} {b : Int} {L L' : Nat → Bool} {u : Nat → Value} {W : World} (h : AllG base N W0 v F new fb b L u W) (e7 : L' 7 = L 7) (e10 : L' 10 = L 10) (e12 : L' 12 = L 12) (e13 : L' 13 = L 13) (e19 : L' 19 = L 19) : AllG base N W0 v F new fb b L' u W :=
  ⟨fun e => h.old (e19 ▸ e), by rw [e7, e10, e12, e13]; exact h.frm, fun e => h.new_ (e19 ▸ e)⟩
def allK (n m : Nat) : List Knd := [.no, .no, .no, .no, .no, .no, .no, .box 0, .no, .no, .app n, .no, .box 1, .app (n + 1), .no, .no, .no, .no, .no, .app m]
set_option maxRecDepth 100000 in
set_option maxHeartbeats 16000000 in
theorem ref_All_leaf (start gin gout : Int) (beds : List Int) (ba : Option Addr) (bc : Nat) (sa : Option Addr) (sn sc : Nat) (won : Bool) (sl : Int) (si : Bool) (score : Int) (wins : Bool) (hsl : 0 ≤ sl ∧ sl ≤ 2000) (d : Nat) (left : Int) (inn : Bool) (eff : Int) (fb : List Int) (fa : Option Addr) (fc : Nat) (tr : Int) (base : Nat) (v : Value) (F : List Vi) (w : World) (hl : 0 ≤ left ∧ left ≤ 2000) (he : eff = 0 ∨ eff = 1 ∨ eff = 2) (hleaf : eff ≠ 0 ∨ fb.length = 3) (hof : OwnD w base (.slice fa fb.length fc) fb) (hvl : VLs w base v F) (hbs : base ≤ w.heap.size) (hF : F.length + 10 ^ d ≤ 1000000) :
    Calls Try.prog 55 #[.agg #[.int .i64 start, .int .i64 gin, .int .i64 gout, .slice ba beds.length bc, .slice sa sn sc, .bool won], .agg #[.int .i64 sl, .bool si, .bool false, .bool false], .agg #[.int .i64 left, .bool inn, .bool (eff == 1), .bool (eff == 2)], .agg #[.slice fa fb.length fc, .int .i64 tr], .int .i64 score, .bool wins, v] w fun e w' => ∃ v', e = .returned v' ∧ VLs w' base v' (F ++ leafF sl score wins left eff fb tr) ∧ Chg (fun k => v.ownBlock = some k) w w' ∧ ∀ k, v'.ownBlock = some k → v.ownBlock = some k ∨ w.heap.size ≤ k := by
  have HOF := Lib.hid hof
  have HVL := Lib.hid hvl
  have HBS := Lib.hid hbs
  have HFL := Lib.hid hF
  have hwr : wrap64 (sl - left) = sl - left := wrap64_in' ⟨by omega, by omega⟩
  obtain ⟨gt, hgt⟩ : ∃ g, sl - left = g := ⟨_, rfl⟩
  have HGT := Lib.hid hgt
  rw [hgt] at hwr
  have hwr' : wrap64 (sl - left) = gt := by rw [hgt]; exact hwr
  clear hof hvl hbs hF hl hgt hwr
  go_enter Try.func55, Try.ntmps55
  go_upto_region 1 with fail
  generalize hw1 : World.alloc (World.alloc (World.alloc (World.alloc w _) _) _) _ = w1
  obtain ⟨B, hBB⟩ : ∃ y, y = w.heap.size := ⟨_, rfl⟩
  rw [← hBB]
  have HX1 : Hid (Ext w w1) := Lib.hid (by rw [← hw1]; exact ((((Ext.refl w).alloc _).alloc _).alloc _).alloc _)
  have K7 : Hid (Blk w1 B #[.int .i64 start, .int .i64 gin, .int .i64 gout, .slice ba beds.length bc, .slice sa sn sc, .bool won]) := Lib.hid (by rw [← hw1, hBB]; exact (((Blk.new w _ _).alloc _).alloc _).alloc _)
  have K8 : Hid (Blk w1 (B + 1) #[.int .i64 sl, .bool si, .bool false, .bool false]) := Lib.hid (by rw [← hw1]; exact ((Blk.at _ (by simp [hBB])).alloc _).alloc _)
  have K9 : Hid (Blk w1 (B + 1 + 1) #[.int .i64 left, .bool inn, .bool (eff == 1), .bool (eff == 2)]) := Lib.hid (by rw [← hw1]; exact (Blk.at _ (by simp [hBB])).alloc _)
  have K10 : Hid (Blk w1 (B + 1 + 1 + 1) #[.slice fa fb.length fc, .int .i64 tr]) := Lib.hid (by rw [← hw1]; exact Blk.at _ (by simp [hBB]))
  have HBB := Lib.hid hBB
  clear hw1 hBB
  rcases he with hE | hE | hE
  · subst hE
    have n2 := K9.out.cell 2 (v := .bool false) rfl
    have n3 := K9.out.cell 3 (v := .bool false) rfl
    have n0 := K9.out.cell 0 (v := .int .i64 left) rfl
    have nl := K9.out.lt
    have s0 := K8.out.cell 0 (v := .int .i64 sl) rfl
    have sl' := K8.out.lt
    have f0 := K10.out.cell 0 (v := .slice fa fb.length fc) rfl
    have f1 := K10.out.cell 1 (v := .int .i64 tr) rfl
    have fl' := K10.out.lt
    have hf3 : fb.length = 3 := by rcases hleaf with h | h; exact absurd rfl h; exact h
    have hf3' : (fb.length : Int) = 3 := by omega
    clear hf3
    cases hm : (gt == score)
    · have hne : ¬ (gt = score) := by simpa using hm
      have HLF : Hid (leafF sl score wins left 0 fb tr = []) := Lib.hid (by unfold leafF; rw [if_neg (show ¬ ((if (0 : Int) = 2 then 0 else sl - left) = score ∧ ((0 : Int) == 1) = wins) from fun h => hne (by have h1 := h.1; rw [if_neg (by decide), HGT.out] at h1; exact h1))])
      clear hne
      go_wp2
      refine bodyPost_ret (v := v) (by simp [results, Try.results55, go_sem]) rfl ⟨v, rfl, ?_, HX1.out.chg _, fun k hk => .inl hk⟩
      rw [HLF.out, List.append_nil]
      exact HVL.out.ext HX1.out
    · have heq : gt = score := by simpa using hm
      cases wins
      · have HLF : Hid (leafF sl score false left 0 fb tr = [⟨fb, tr⟩]) := Lib.hid (by unfold leafF; rw [if_pos (show (if (0 : Int) = 2 then 0 else sl - left) = score ∧ ((0 : Int) == 1) = false from ⟨by rw [if_neg (by decide), HGT.out]; exact heq, rfl⟩)])
        clear heq
        obtain ⟨vals, hv1, hv2, hv3⟩ := HVL.out.ext (HX1.out.alloc (.cells #[.slice fa fb.length fc, .int .i64 tr] 114))
        have HV1 := Lib.hid hv1
        have HV2 := Lib.hid hv2
        have HV3 := Lib.hid hv3
        clear hv1 hv2 hv3
        go_wp2_with (at_builtin; refine wp_append_from rfl _ _ 111 114 _ 2 32 rfl info_vi (by kernel_rfl) rfl (by decide) base v F.length vals rfl HV1.out (some ⟨w1.heap.size, 0, none⟩) 1 1 [.slice fa fb.length fc, .int .i64 tr] rfl (fun h => by cases h) rfl ?_ ?_ (by have h1 := HFL.out; have h2 : 0 < 10 ^ d := Nat.pos_of_ne_zero (by simp); omega) (by omega) (by have h1 := HBS.out; have h2 := HX1.out.size; simp; omega) ?_)
        · intro ad had j u hj
          cases had
          match j, hj with
          | 0, hj => cases hj; rw [addr_add]; exact (Blk.new w1 _ _).cell 0 rfl
          | 1, hj => cases hj; rw [addr_add]; exact (Blk.new w1 _ _).cell 1 rfl
        · intro u hu
          cases hu with
          | head => rfl
          | tail _ h =>
            cases h with
            | head => rfl
            | tail _ h => cases h
        intro v8 w8 hO8 hg8 hn8
        have HSN := Lib.hid (VLs.snoc (x := ⟨fb, tr⟩) HV1.out HV2.out HV3.out (HOF.out.ext (HX1.out.alloc _)) hO8 hg8)
        have HCH := Lib.hid (((HX1.out.alloc (.cells #[.slice fa fb.length fc, .int .i64 tr] 114)).chg _).trans hg8)
        have HOW : Hid (∀ k, v8.ownBlock = some k → v.ownBlock = some k ∨ w.heap.size ≤ k) := Lib.hid (fun k hk => (hn8 k hk).imp id (fun h => by have h2 := HX1.out.size; have h3 := h.1; omega))
        clear hO8 hg8 hn8
        go_wp2
        refine bodyPost_ret (v := v8) (by simp [results, Try.results55, go_sem]) rfl ⟨v8, rfl, ?_, HCH.out, HOW.out⟩
        rw [HLF.out]
        exact HSN.out
      · have HLF : Hid (leafF sl score true left 0 fb tr = []) := Lib.hid (by unfold leafF; rw [if_neg (show ¬ ((if (0 : Int) = 2 then 0 else sl - left) = score ∧ ((0 : Int) == 1) = true) from fun h => by have h2 := h.2; revert h2; decide)])
        clear heq
        go_wp2
        refine bodyPost_ret (v := v) (by simp [results, Try.results55, go_sem]) rfl ⟨v, rfl, ?_, HX1.out.chg _, fun k hk => .inl hk⟩
        rw [HLF.out, List.append_nil]
        exact HVL.out.ext HX1.out
  · subst hE
    have n2 := K9.out.cell 2 (v := .bool true) rfl
    have n3 := K9.out.cell 3 (v := .bool false) rfl
    have n0 := K9.out.cell 0 (v := .int .i64 left) rfl
    have nl := K9.out.lt
    have s0 := K8.out.cell 0 (v := .int .i64 sl) rfl
    have sl' := K8.out.lt
    have f0 := K10.out.cell 0 (v := .slice fa fb.length fc) rfl
    have f1 := K10.out.cell 1 (v := .int .i64 tr) rfl
    have fl' := K10.out.lt
    cases hm : (gt == score)
    · have hne : ¬ (gt = score) := by simpa using hm
      have HLF : Hid (leafF sl score wins left 1 fb tr = []) := Lib.hid (by unfold leafF; rw [if_neg (show ¬ ((if (1 : Int) = 2 then 0 else sl - left) = score ∧ ((1 : Int) == 1) = wins) from fun h => hne (by have h1 := h.1; rw [if_neg (by decide), HGT.out] at h1; exact h1))])
      clear hne
      go_wp2
      refine bodyPost_ret (v := v) (by simp [results, Try.results55, go_sem]) rfl ⟨v, rfl, ?_, HX1.out.chg _, fun k hk => .inl hk⟩
      rw [HLF.out, List.append_nil]
      exact HVL.out.ext HX1.out
    · have heq : gt = score := by simpa using hm
      cases wins
      · have HLF : Hid (leafF sl score false left 1 fb tr = []) := Lib.hid (by unfold leafF; rw [if_neg (show ¬ ((if (1 : Int) = 2 then 0 else sl - left) = score ∧ ((1 : Int) == 1) = false) from fun h => by have h2 := h.2; revert h2; decide)])
        clear heq
        go_wp2
        refine bodyPost_ret (v := v) (by simp [results, Try.results55, go_sem]) rfl ⟨v, rfl, ?_, HX1.out.chg _, fun k hk => .inl hk⟩
        rw [HLF.out, List.append_nil]
        exact HVL.out.ext HX1.out
      · have HLF : Hid (leafF sl score true left 1 fb tr = [⟨fb, tr⟩]) := Lib.hid (by unfold leafF; rw [if_pos (show (if (1 : Int) = 2 then 0 else sl - left) = score ∧ ((1 : Int) == 1) = true from ⟨by rw [if_neg (by decide), HGT.out]; exact heq, rfl⟩)])
        clear heq
        obtain ⟨vals, hv1, hv2, hv3⟩ := HVL.out.ext (HX1.out.alloc (.cells #[.slice fa fb.length fc, .int .i64 tr] 114))
        have HV1 := Lib.hid hv1
        have HV2 := Lib.hid hv2
        have HV3 := Lib.hid hv3
        clear hv1 hv2 hv3
        go_wp2_with (at_builtin; refine wp_append_from rfl _ _ 111 114 _ 2 32 rfl info_vi (by kernel_rfl) rfl (by decide) base v F.length vals rfl HV1.out (some ⟨w1.heap.size, 0, none⟩) 1 1 [.slice fa fb.length fc, .int .i64 tr] rfl (fun h => by cases h) rfl ?_ ?_ (by have h1 := HFL.out; have h2 : 0 < 10 ^ d := Nat.pos_of_ne_zero (by simp); omega) (by omega) (by have h1 := HBS.out; have h2 := HX1.out.size; simp; omega) ?_)
        · intro ad had j u hj
          cases had
          match j, hj with
          | 0, hj => cases hj; rw [addr_add]; exact (Blk.new w1 _ _).cell 0 rfl
          | 1, hj => cases hj; rw [addr_add]; exact (Blk.new w1 _ _).cell 1 rfl
        · intro u hu
          cases hu with
          | head => rfl
          | tail _ h =>
            cases h with
            | head => rfl
            | tail _ h => cases h
        intro v8 w8 hO8 hg8 hn8
        have HSN := Lib.hid (VLs.snoc (x := ⟨fb, tr⟩) HV1.out HV2.out HV3.out (HOF.out.ext (HX1.out.alloc _)) hO8 hg8)
        have HCH := Lib.hid (((HX1.out.alloc (.cells #[.slice fa fb.length fc, .int .i64 tr] 114)).chg _).trans hg8)
        have HOW : Hid (∀ k, v8.ownBlock = some k → v.ownBlock = some k ∨ w.heap.size ≤ k) := Lib.hid (fun k hk => (hn8 k hk).imp id (fun h => by have h2 := HX1.out.size; have h3 := h.1; omega))
        clear hO8 hg8 hn8
        go_wp2
        refine bodyPost_ret (v := v8) (by simp [results, Try.results55, go_sem]) rfl ⟨v8, rfl, ?_, HCH.out, HOW.out⟩
        rw [HLF.out]
        exact HSN.out
  · subst hE
    have n2 := K9.out.cell 2 (v := .bool false) rfl
    have n3 := K9.out.cell 3 (v := .bool true) rfl
    have n0 := K9.out.cell 0 (v := .int .i64 left) rfl
    have nl := K9.out.lt
    have s0 := K8.out.cell 0 (v := .int .i64 sl) rfl
    have sl' := K8.out.lt
    have f0 := K10.out.cell 0 (v := .slice fa fb.length fc) rfl
    have f1 := K10.out.cell 1 (v := .int .i64 tr) rfl
    have fl' := K10.out.lt
    cases hm : ((0 : Int) == score)
    · have hne : ¬ ((0 : Int) = score) := by simpa using hm
      have HLF : Hid (leafF sl score wins left 2 fb tr = []) := Lib.hid (by unfold leafF; rw [if_neg (show ¬ ((if (2 : Int) = 2 then 0 else sl - left) = score ∧ ((2 : Int) == 1) = wins) from fun h => hne (by have h1 := h.1; rw [if_pos rfl] at h1; exact h1))])
      clear hne
      go_wp2
      refine bodyPost_ret (v := v) (by simp [results, Try.results55, go_sem]) rfl ⟨v, rfl, ?_, HX1.out.chg _, fun k hk => .inl hk⟩
      rw [HLF.out, List.append_nil]
      exact HVL.out.ext HX1.out
    · have heq : (0 : Int) = score := by simpa using hm
      cases wins
      · have HLF : Hid (leafF sl score false left 2 fb tr = [⟨fb, tr⟩]) := Lib.hid (by unfold leafF; rw [if_pos (show (if (2 : Int) = 2 then 0 else sl - left) = score ∧ ((2 : Int) == 1) = false from ⟨by rw [if_pos rfl]; exact heq, rfl⟩)])
        clear heq
        obtain ⟨vals, hv1, hv2, hv3⟩ := HVL.out.ext (HX1.out.alloc (.cells #[.slice fa fb.length fc, .int .i64 tr] 114))
        have HV1 := Lib.hid hv1
        have HV2 := Lib.hid hv2
        have HV3 := Lib.hid hv3
        clear hv1 hv2 hv3
        go_wp2_with (at_builtin; refine wp_append_from rfl _ _ 111 114 _ 2 32 rfl info_vi (by kernel_rfl) rfl (by decide) base v F.length vals rfl HV1.out (some ⟨w1.heap.size, 0, none⟩) 1 1 [.slice fa fb.length fc, .int .i64 tr] rfl (fun h => by cases h) rfl ?_ ?_ (by have h1 := HFL.out; have h2 : 0 < 10 ^ d := Nat.pos_of_ne_zero (by simp); omega) (by omega) (by have h1 := HBS.out; have h2 := HX1.out.size; simp; omega) ?_)
        · intro ad had j u hj
          cases had
          match j, hj with
          | 0, hj => cases hj; rw [addr_add]; exact (Blk.new w1 _ _).cell 0 rfl
          | 1, hj => cases hj; rw [addr_add]; exact (Blk.new w1 _ _).cell 1 rfl
        · intro u hu
          cases hu with
          | head => rfl
          | tail _ h =>
            cases h with
            | head => rfl
            | tail _ h => cases h
        intro v8 w8 hO8 hg8 hn8
        have HSN := Lib.hid (VLs.snoc (x := ⟨fb, tr⟩) HV1.out HV2.out HV3.out (HOF.out.ext (HX1.out.alloc _)) hO8 hg8)
        have HCH := Lib.hid (((HX1.out.alloc (.cells #[.slice fa fb.length fc, .int .i64 tr] 114)).chg _).trans hg8)
        have HOW : Hid (∀ k, v8.ownBlock = some k → v.ownBlock = some k ∨ w.heap.size ≤ k) := Lib.hid (fun k hk => (hn8 k hk).imp id (fun h => by have h2 := HX1.out.size; have h3 := h.1; omega))
        clear hO8 hg8 hn8
        go_wp2
        refine bodyPost_ret (v := v8) (by simp [results, Try.results55, go_sem]) rfl ⟨v8, rfl, ?_, HCH.out, HOW.out⟩
        rw [HLF.out]
        exact HSN.out
      · have HLF : Hid (leafF sl score true left 2 fb tr = []) := Lib.hid (by unfold leafF; rw [if_neg (show ¬ ((if (2 : Int) = 2 then 0 else sl - left) = score ∧ ((2 : Int) == 1) = true) from fun h => by have h2 := h.2; revert h2; decide)])
        clear heq
        go_wp2
        refine bodyPost_ret (v := v) (by simp [results, Try.results55, go_sem]) rfl ⟨v, rfl, ?_, HX1.out.chg _, fun k hk => .inl hk⟩
        rw [HLF.out, List.append_nil]
        exact HVL.out.ext HX1.out
set_option maxRecDepth 100000 in
set_option maxHeartbeats 16000000 in
theorem ref_All (start gin gout : Int) (beds : List Int) (ba : Option Addr) (bc : Nat) (sa : Option Addr) (sn sc : Nat) (won : Bool) (sl : Int) (si : Bool) (score : Int) (wins : Bool) (hg : 0 ≤ gin ∧ gin ≤ 2) (hgo : 0 ≤ gout ∧ gout ≤ 2) (hB : bedsB beds = true) (hn9 : beds.length ≤ 9) (hsl : 0 ≤ sl ∧ sl ≤ 2000) :
    ∀ (d : Nat) (left : Int) (inn : Bool) (eff : Int) (fb : List Int) (fa : Option Addr) (fc : Nat) (tr : Int) (base : Nat) (v : Value) (F : List Vi) (w : World), fb.length + d = 3 → (0 ≤ left ∧ left ≤ 2000) → (0 ≤ tr ∧ tr + d ≤ 3) → (eff = 0 ∨ eff = 1 ∨ eff = 2) → CellsB w base ba beds → OwnD w base (.slice fa fb.length fc) fb → VLs w base v F → base ≤ w.heap.size → F.length + 10 ^ d ≤ 1000000 →
    Calls Try.prog 55 #[.agg #[.int .i64 start, .int .i64 gin, .int .i64 gout, .slice ba beds.length bc, .slice sa sn sc, .bool won], .agg #[.int .i64 sl, .bool si, .bool false, .bool false], .agg #[.int .i64 left, .bool inn, .bool (eff == 1), .bool (eff == 2)], .agg #[.slice fa fb.length fc, .int .i64 tr], .int .i64 score, .bool wins, v] w fun e w' => ∃ v', e = .returned v' ∧ VLs w' base v' (F ++ allF gin gout beds sl score wins d left inn eff fb tr) ∧ Chg (fun k => v.ownBlock = some k) w w' ∧ ∀ k, v'.ownBlock = some k → v.ownBlock = some k ∨ w.heap.size ≤ k := by
  intro d
  induction d with
  | zero =>
    intro left inn eff fb fa fc tr base v F w hd hl ht he hcb hof hvl hbs hF
    exact ref_All_leaf start gin gout beds ba bc sa sn sc won sl si score wins hsl 0 left inn eff fb fa fc tr base v F w hl he (.inr (by omega)) hof hvl hbs hF
  | succ d ih =>
    intro left inn eff fb fa fc tr base v F w hd hl ht he hcb hof hvl hbs hF
    by_cases h0 : eff = 0
    case neg =>
      have h1 : allF gin gout beds sl score wins (d + 1) left inn eff fb tr = leafF sl score wins left eff fb tr := by unfold allF; rw [if_neg h0]
      rw [h1]
      exact ref_All_leaf start gin gout beds ba bc sa sn sc won sl si score wins hsl (d + 1) left inn eff fb fa fc tr base v F w hl he (.inl h0) hof hvl hbs hF
    subst h0
    clear he
    have HFB3 : Hid (fb.length + (d + 1) = 3) := Lib.hid hd
    have hf3 : ¬ (fb.length : Int) = 3 := by omega
    obtain ⟨_, _, e1, hfc, -, -, hfn⟩ := (hof.rd (S := S0) (fun _ _ h => h)).cells
    cases e1
    have HFBW : Hid (CellsAt w .i64 fa fb ∧ (fa = none → fb.length = 0 ∧ fc = 0)) := Lib.hid ⟨hfc, hfn⟩
    clear hfc hfn
    have HCB := Lib.hid hcb
    have HOF := Lib.hid hof
    have HVL := Lib.hid hvl
    have HBS := Lib.hid hbs
    have HFL := Lib.hid hF
    have HLB := Lib.hid hl
    have HTB := Lib.hid ht
    clear hcb hof hvl hbs hF hl ht
    have HFIN := Lib.hid (fun W (hx : Ext w W) => ref_Finish start gin gout left inn beds ba bc W (HCB.out.cells.ext hx) (fun x hx => by
      have h1 := beds_bounds hB (.inr hx)
      have h2 := HLB.out
      exact ⟨h1.1, by unfold I64; omega⟩) hg hgo (by omega))
    obtain ⟨fi, hfi⟩ : ∃ y, fin gin gout beds left inn = y := ⟨_, rfl⟩
    rw [hfi] at HFIN
    have HFI : Hid (finI gin gout beds left inn = if fi = true then 1 else 0) := Lib.hid (by unfold finI; rw [hfi])
    obtain ⟨T, hTT⟩ : ∃ T, tr + finI gin gout beds left inn = T := ⟨_, rfl⟩
    obtain ⟨G, hGG⟩ : ∃ G, (fun b => allF gin gout beds sl score wins d (hitS gin gout left inn b).1 (hitS gin gout left inn b).2.1 (hitS gin gout left inn b).2.2 (fb ++ [b]) T) = G := ⟨_, rfl⟩
    have HALL : Hid (allF gin gout beds sl score wins (d + 1) left inn 0 fb tr = (0 :: beds).flatMap G) := Lib.hid (by unfold allF; rw [if_pos rfl, hTT, hGG])
    have HGL : Hid (∀ b, (G b).length ≤ 10 ^ d) := Lib.hid (fun b => by rw [← hGG]; exact allF_len hn9 d _ _ _ _ _)
    have HTT : Hid (T = tr + if fi = true then 1 else 0) := Lib.hid (by rw [← hTT, HFI.out])
    have HTB2 : Hid (0 ≤ T ∧ T + d ≤ 3) := Lib.hid (by rw [HTT.out]; have := HTB.out; split <;> omega)
    have HGG := Lib.hid hGG
    rw [HALL.out]
    clear hfi hTT hGG hd
    go_enter Try.func55, Try.ntmps55
    go_upto_region 1 with fail
    generalize hw1 : World.alloc (World.alloc (World.alloc (World.alloc w _) _) _) _ = w1
    obtain ⟨B, hBB⟩ : ∃ y, y = w.heap.size := ⟨_, rfl⟩
    rw [← hBB]
    have HX1 : Hid (Ext w w1) := Lib.hid (by rw [← hw1]; exact ((((Ext.refl w).alloc _).alloc _).alloc _).alloc _)
    have K7 : Hid (Blk w1 B #[.int .i64 start, .int .i64 gin, .int .i64 gout, .slice ba beds.length bc, .slice sa sn sc, .bool won]) := Lib.hid (by rw [← hw1, hBB]; exact (((Blk.new w _ _).alloc _).alloc _).alloc _)
    have K8 : Hid (Blk w1 (B + 1) #[.int .i64 sl, .bool si, .bool false, .bool false]) := Lib.hid (by rw [← hw1]; exact ((Blk.at _ (by simp [hBB])).alloc _).alloc _)
    have K9 : Hid (Blk w1 (B + 1 + 1) #[.int .i64 left, .bool inn, .bool false, .bool false]) := Lib.hid (by rw [← hw1]; exact (Blk.at _ (by simp [hBB])).alloc _)
    have K10 : Hid (Blk w1 (B + 1 + 1 + 1) #[.slice fa fb.length fc, .int .i64 tr]) := Lib.hid (by rw [← hw1]; exact Blk.at _ (by simp [hBB]))
    have HBB := Lib.hid hBB
    clear hw1 hBB
    have n0 := K9.out.cell 0 (v := .int .i64 left) rfl
    have n1 := K9.out.cell 1 (v := .bool inn) rfl
    have n2 := K9.out.cell 2 (v := .bool false) rfl
    have n3 := K9.out.cell 3 (v := .bool false) rfl
    have nl := K9.out.lt
    have f0 := K10.out.cell 0 (v := .slice fa fb.length fc) rfl
    have f1 := K10.out.cell 1 (v := .int .i64 tr) rfl
    have fl := K10.out.lt
    have m0 := K7.out.cell 0 (v := .int .i64 start) rfl
    have m1 := K7.out.cell 1 (v := .int .i64 gin) rfl
    have m2 := K7.out.cell 2 (v := .int .i64 gout) rfl
    have m3 := K7.out.cell 3 (v := .slice ba beds.length bc) rfl
    have m4 := K7.out.cell 4 (v := .slice sa sn sc) rfl
    have m5 := K7.out.cell 5 (v := .bool won) rfl
    have ml := K7.out.lt
    go_wp2_with fail
    refine (HFIN.out w1 HX1.out).mono ?_
    rintro e w2 ⟨rfl, hx2⟩
    have HX2 := Lib.hid (HX1.out.trans hx2)
    have K7' := Lib.hid (K7.out.ext hx2)
    have K8' := Lib.hid (K8.out.ext hx2)
    have K9' : Hid (Blk w2 (B + 1 + 1) #[.int .i64 left, .bool inn, .bool false, .bool false]) := Lib.hid (K9.out.ext hx2)
    have K10' := Lib.hid (K10.out.ext hx2)
    clear hx2 n0 n1 n2 n3 nl f0 f1 fl m0 m1 m2 m3 m4 m5 ml K7 K8 K9 K10 HX1 HFIN hf3
    go_upto_if 59 with fail
    go_cut [16] (fun t wx => t = .int .i64 T ∧ wx = w2)
    case first =>
      have hw : wrap64 (tr + 1) = tr + 1 := wrap64_in' ⟨by have := HTB.out; omega, by have := HTB.out; omega⟩
      cases fi
      · obtain rfl : T = tr := by rw [HTT.out]; simp
        go_wp2
        go_meet
        exact ⟨rfl, rfl⟩
      · obtain rfl : T = tr + 1 := by rw [HTT.out]; simp
        go_wp2
        go_meet
        exact ⟨rfl, rfl⟩
    case rest =>
    obtain ⟨hc1, hc2⟩ := hcut
    subst hc1
    subst hc2
    obtain ⟨w2, hw2⟩ : ∃ x, x = wc := ⟨_, rfl⟩
    subst hw2
    have HVB : Hid (∀ q, v.ownBlock = some q → base ≤ q ∧ q < B) := Lib.hid (fun q hq => by have h1 := HVL.out.from q hq; have h2 := HBB.out; omega)
    have HW2 : Hid (B + 1 + 1 + 1 < w2.heap.size) := Lib.hid K10'.out.lt
    go_wp2
    go_loopw [6, 17] (fun f i wr => ∃ (k : Nat) (fv : Value) (iv : Int), k ≤ beds.length + 1 ∧ iv = (k : Int) - 1 ∧ fv = f ∧ i = .int .i64 iv ∧ VLs wr base fv (F ++ ((0 :: beds).take k).flatMap G) ∧ Chg (fun q => v.ownBlock = some q) w2 wr ∧ (∀ q, fv.ownBlock = some q → v.ownBlock = some q ∨ w2.heap.size ≤ q)) (fun _ i _ => ((beds.length : Int) - intOf i).toNat)
    case atStart => exact ⟨0, v, -1, Nat.zero_le _, rfl, rfl, rfl, by simpa using HVL.out.ext HX2.out, Chg.refl _ _, fun q hq => .inl hq⟩
    case round =>
      obtain ⟨k, fv, iv, hk, hiv, rfl, rfl, hv, hc, hn⟩ := hrel
      have HCR := Lib.hid hc
      have HNR := Lib.hid hn
      have K7R := Lib.hid (K7'.out.chg hc (fun e => by have := HVB.out B e; omega))
      have K8R := Lib.hid (K8'.out.chg hc (fun e => by have := HVB.out _ e; omega))
      have K9R := Lib.hid (K9'.out.chg hc (fun e => by have := HVB.out _ e; omega))
      have K10R := Lib.hid (K10'.out.chg hc (fun e => by have := HVB.out _ e; omega))
      have HCBR := Lib.hid ((HCB.out.ext HX2.out).chg hc (fun q hq => (HVB.out q hq).1))
      have HFBA : Hid (CellsAt wr .i64 fa fb ∧ (fa = none → fb.length = 0 ∧ fc = 0)) := Lib.hid (by
        obtain ⟨vals, hr, -⟩ := HVL.out.ext HX2.out
        have ho2 : OwnD wr base (.slice fa fb.length fc) fb := own_chg (HOF.out.ext HX2.out) hc (vi_ne hr (HOF.out.ext HX2.out))
        obtain ⟨_, _, e1, h1, -, -, h2⟩ := (ho2.rd (S := S0) (fun _ _ h => h)).cells
        cases e1
        exact ⟨h1, h2⟩)
      have HNO : Hid (∀ q, B ≤ q → q ≤ B + 1 + 1 + 1 → fv.ownBlock ≠ some q) := Lib.hid (fun q h1 h2 e => by
        have h4 := HW2.out
        rcases hn q e with h | h
        · have := HVB.out q h; omega
        · omega)
      have HBW : Hid (base ≤ wr.heap.size) := Lib.hid (Nat.le_trans HBS.out (Nat.le_trans HX2.out.size hc.size))
      have HVR0 := Lib.hid hv
      clear hv hc hn
      have c3 := K7R.out.cell 3 (v := .slice ba beds.length bc) rfl
      have cl := K7R.out.lt
      by_cases hlt : k < beds.length + 1
      · have hlti : iv < (beds.length : Int) := by omega
        obtain ⟨F2, hF2⟩ : ∃ y, F ++ ((0 :: beds).take k).flatMap G = y := ⟨_, rfl⟩
        have HVR : Hid (VLs wr base fv F2) := Lib.hid (hF2 ▸ HVR0.out)
        have HFL2 : Hid (F2.length + 10 ^ d ≤ 1000000) := Lib.hid (by
          have h1 := flat_len (f := G) ((0 :: beds).take k) (fun x _ => HGL.out x)
          have h2 := HFL.out
          have h3 : ((0 :: beds).take k).length * 10 ^ d ≤ 9 * 10 ^ d := Nat.mul_le_mul_right _ (by simp only [List.length_take, List.length_cons]; omega)
          rw [Nat.pow_succ] at h2
          rw [← hF2, List.length_append]
          omega)
        have HTAKE : Hid ((0 :: beds).take (k + 1) = (0 :: beds).take k ++ [(0 :: beds)[k]'(by simpa using hlt)]) := Lib.hid (List.take_succ_eq_append_getElem (by simpa using hlt))
        have HF2 := Lib.hid hF2
        clear hF2 HVR0
        cases k with
        | zero =>
          obtain rfl : iv = -1 := by omega
          clear hiv
          go_upto_region 17 with fail
          clear c3 cl
          have HMEM : Hid ((0 : Int) = 0 ∨ (0 : Int) ∈ beds) := Lib.hid (.inl rfl)
          have HHIT : Hid (∀ W', Calls Try.prog 68 #[.agg #[.int .i64 start, .int .i64 gin, .int .i64 gout], .agg #[.int .i64 left, .bool inn, .bool false, .bool false], .int .i64 0] W' fun e w' => e = .returned (stdV (hitS gin gout left inn 0)) ∧ Ext W' w') := Lib.hid (fun W' => ref_Hit start gin gout left inn 0 W' (beds_bounds hB HMEM.out).1 (by have h1 := (beds_bounds hB HMEM.out).2; have h2 := HLB.out; unfold I64; omega) hg hgo)
          have hhb := hit_bounds (gin := gin) (gout := gout) (inn := inn) (beds_bounds hB HMEM.out).2.1 HLB.out.1
          have hef := hitS_eff gin gout left inn 0
          unfold stdV at HHIT
          have HGB : Hid (G 0 = allF gin gout beds sl score wins d (hitS gin gout left inn 0).1 (hitS gin gout left inn 0).2.1 (hitS gin gout left inn 0).2.2 (fb ++ [0]) T) := Lib.hid (by rw [← HGG.out])
          obtain ⟨⟨hL_, hI_, E_⟩, hH⟩ : ∃ y, hitS gin gout left inn 0 = y := ⟨_, rfl⟩
          rw [hH] at HHIT hhb HGB hef
          simp only at HHIT hhb HGB hef
          have HHB : Hid (0 ≤ hL_ ∧ hL_ ≤ 2000) := Lib.hid (by have := HLB.out; omega)
          have HEF := Lib.hid hef
          clear hH hhb hef
          obtain ⟨new, hnew⟩ : ∃ y, allF gin gout beds sl score wins d hL_ hI_ E_ (fb ++ [0]) T = y := ⟨_, rfl⟩
          have HIH := Lib.hid ih
          rw [hnew] at HGB
          have HNEW := Lib.hid hnew
          clear hnew
          have m0 : ∀ y : Lat (fun q _ => fv.ownBlock = some q ∨ wr.heap.size ≤ q) wr, y.world.cell? ⟨B, 0, none⟩ = some (.int .i64 start) := fun y => (K7R.out.chg y.chg (by rintro ⟨_, e | e⟩; exact HNO.out _ (by omega) (by omega) e; exact absurd e (by have := K7R.out.lt; omega))).cell 0 rfl
          have m1 : ∀ y : Lat (fun q _ => fv.ownBlock = some q ∨ wr.heap.size ≤ q) wr, y.world.cell? ⟨B, 1, none⟩ = some (.int .i64 gin) := fun y => (K7R.out.chg y.chg (by rintro ⟨_, e | e⟩; exact HNO.out _ (by omega) (by omega) e; exact absurd e (by have := K7R.out.lt; omega))).cell 1 rfl
          have m2 : ∀ y : Lat (fun q _ => fv.ownBlock = some q ∨ wr.heap.size ≤ q) wr, y.world.cell? ⟨B, 2, none⟩ = some (.int .i64 gout) := fun y => (K7R.out.chg y.chg (by rintro ⟨_, e | e⟩; exact HNO.out _ (by omega) (by omega) e; exact absurd e (by have := K7R.out.lt; omega))).cell 2 rfl
          have m3 : ∀ y : Lat (fun q _ => fv.ownBlock = some q ∨ wr.heap.size ≤ q) wr, y.world.cell? ⟨B, 3, none⟩ = some (.slice ba beds.length bc) := fun y => (K7R.out.chg y.chg (by rintro ⟨_, e | e⟩; exact HNO.out _ (by omega) (by omega) e; exact absurd e (by have := K7R.out.lt; omega))).cell 3 rfl
          have m4 : ∀ y : Lat (fun q _ => fv.ownBlock = some q ∨ wr.heap.size ≤ q) wr, y.world.cell? ⟨B, 4, none⟩ = some (.slice sa sn sc) := fun y => (K7R.out.chg y.chg (by rintro ⟨_, e | e⟩; exact HNO.out _ (by omega) (by omega) e; exact absurd e (by have := K7R.out.lt; omega))).cell 4 rfl
          have m5 : ∀ y : Lat (fun q _ => fv.ownBlock = some q ∨ wr.heap.size ≤ q) wr, y.world.cell? ⟨B, 5, none⟩ = some (.bool won) := fun y => (K7R.out.chg y.chg (by rintro ⟨_, e | e⟩; exact HNO.out _ (by omega) (by omega) e; exact absurd e (by have := K7R.out.lt; omega))).cell 5 rfl
          have ml := K7R.out.lt
          have s0 : ∀ y : Lat (fun q _ => fv.ownBlock = some q ∨ wr.heap.size ≤ q) wr, y.world.cell? ⟨B + 1, 0, none⟩ = some (.int .i64 sl) := fun y => (K8R.out.chg y.chg (by rintro ⟨_, e | e⟩; exact HNO.out _ (by omega) (by omega) e; exact absurd e (by have := K8R.out.lt; omega))).cell 0 rfl
          have s1 : ∀ y : Lat (fun q _ => fv.ownBlock = some q ∨ wr.heap.size ≤ q) wr, y.world.cell? ⟨B + 1, 1, none⟩ = some (.bool si) := fun y => (K8R.out.chg y.chg (by rintro ⟨_, e | e⟩; exact HNO.out _ (by omega) (by omega) e; exact absurd e (by have := K8R.out.lt; omega))).cell 1 rfl
          have s2 : ∀ y : Lat (fun q _ => fv.ownBlock = some q ∨ wr.heap.size ≤ q) wr, y.world.cell? ⟨B + 1, 2, none⟩ = some (.bool false) := fun y => (K8R.out.chg y.chg (by rintro ⟨_, e | e⟩; exact HNO.out _ (by omega) (by omega) e; exact absurd e (by have := K8R.out.lt; omega))).cell 2 rfl
          have s3 : ∀ y : Lat (fun q _ => fv.ownBlock = some q ∨ wr.heap.size ≤ q) wr, y.world.cell? ⟨B + 1, 3, none⟩ = some (.bool false) := fun y => (K8R.out.chg y.chg (by rintro ⟨_, e | e⟩; exact HNO.out _ (by omega) (by omega) e; exact absurd e (by have := K8R.out.lt; omega))).cell 3 rfl
          have sll := K8R.out.lt
          have n0 : ∀ y : Lat (fun q _ => fv.ownBlock = some q ∨ wr.heap.size ≤ q) wr, y.world.cell? ⟨B + 1 + 1, 0, none⟩ = some (.int .i64 left) := fun y => (K9R.out.chg y.chg (by rintro ⟨_, e | e⟩; exact HNO.out _ (by omega) (by omega) e; exact absurd e (by have := K9R.out.lt; omega))).cell 0 rfl
          have n1 : ∀ y : Lat (fun q _ => fv.ownBlock = some q ∨ wr.heap.size ≤ q) wr, y.world.cell? ⟨B + 1 + 1, 1, none⟩ = some (.bool inn) := fun y => (K9R.out.chg y.chg (by rintro ⟨_, e | e⟩; exact HNO.out _ (by omega) (by omega) e; exact absurd e (by have := K9R.out.lt; omega))).cell 1 rfl
          have n2 : ∀ y : Lat (fun q _ => fv.ownBlock = some q ∨ wr.heap.size ≤ q) wr, y.world.cell? ⟨B + 1 + 1, 2, none⟩ = some (.bool false) := fun y => (K9R.out.chg y.chg (by rintro ⟨_, e | e⟩; exact HNO.out _ (by omega) (by omega) e; exact absurd e (by have := K9R.out.lt; omega))).cell 2 rfl
          have n3 : ∀ y : Lat (fun q _ => fv.ownBlock = some q ∨ wr.heap.size ≤ q) wr, y.world.cell? ⟨B + 1 + 1, 3, none⟩ = some (.bool false) := fun y => (K9R.out.chg y.chg (by rintro ⟨_, e | e⟩; exact HNO.out _ (by omega) (by omega) e; exact absurd e (by have := K9R.out.lt; omega))).cell 3 rfl
          have nl := K9R.out.lt
          have f0 : ∀ y : Lat (fun q _ => fv.ownBlock = some q ∨ wr.heap.size ≤ q) wr, y.world.cell? ⟨B + 1 + 1 + 1, 0, none⟩ = some (.slice fa fb.length fc) := fun y => (K10R.out.chg y.chg (by rintro ⟨_, e | e⟩; exact HNO.out _ (by omega) (by omega) e; exact absurd e (by have := K10R.out.lt; omega))).cell 0 rfl
          have f1 : ∀ y : Lat (fun q _ => fv.ownBlock = some q ∨ wr.heap.size ≤ q) wr, y.world.cell? ⟨B + 1 + 1 + 1, 1, none⟩ = some (.int .i64 tr) := fun y => (K10R.out.chg y.chg (by rintro ⟨_, e | e⟩; exact HNO.out _ (by omega) (by omega) e; exact absurd e (by have := K10R.out.lt; omega))).cell 1 rfl
          have fl := K10R.out.lt
          refine wp_region_lat (by kernel_rfl) (fun q _ => fv.ownBlock = some q ∨ wr.heap.size ≤ q) (fun k => (kAt (allK fb.length (F2.length + new.length)) k).loud) (fun k => (kAt (allK fb.length (F2.length + new.length)) k).ok) (AllG base wr.heap.size wr fv F2 new fb 0) (by kernel_rfl) (fun k hk => Nat.lt_of_lt_of_le (kAt_lt hk) (Nat.le_of_ble_eq_true rfl)) (fun L L' u w' h hg => hg.congr (h 7 rfl) (h 10 rfl) (h 12 rfl) (h 13 rfl) (h 19 rfl)) (fun L u a b h hx => h.ext hx) (fun k => (kAt (allK fb.length (F2.length + new.length)) k).wit) (fun k _ => (kAt _ k).wit_ok) ⟨fun _ => (Ext.refl wr).drew, (Frm.nones _ 2 wr).ext (Ext.refl wr).drew, fun h => by cases h⟩ ?_
          intro T' hT hne2 u hu
          obtain ⟨k7, u7⟩ : ∃ k, u 7 = .slice (some ⟨k, 0, none⟩) 0 0 := hu 7 rfl
          obtain ⟨a10, c10, u10⟩ : ∃ a c, u 10 = .slice a fb.length c := hu 10 rfl
          obtain ⟨k12, u12⟩ : ∃ k, u 12 = .slice (some ⟨k, 0, none⟩) 1 1 := hu 12 rfl
          obtain ⟨a13, c13, u13⟩ : ∃ a c, u 13 = .slice a (fb.length + 1) c := hu 13 rfl
          obtain ⟨a19, c19, u19⟩ : ∃ a c, u 19 = .slice a (F2.length + new.length) c := hu 19 rfl
          clear hu
          refine lx_next 7 (by rfl) (by decide) ?_
          dsimp only [List.take, List.drop]
          repeat (go_big_quiet_step (with_reducible refine Calls.lat hT (HHIT.out _)))
          refine wpQuiet_nil ?_
          refine lx_loud (by rfl) (by kernel_rfl) ?_ (fun K hK => ?_)
          · intro L w3 hL hd hcl hC hs
            obtain ⟨x, rfl⟩ := hC
            have hzs := x.size
            have h10 := hcl.off hL 40 10 (by kernel_rfl)
            have h13 := hcl.off hL 40 13 (by kernel_rfl)
            have h19 := hcl.off hL 40 19 (by kernel_rfl)
            obtain ⟨h0, hF, -⟩ := hs
            have e0 := h0 h19
            simp only [hL, h10, h13, cond_false] at hF
            go_wp2
            have h2 := hF.set 0 rfl (((Ext.refl x.world).alloc (.cells #[] 99)).chg _) (r' := Res.own wr.heap.size 99 1 (.slice (some ⟨x.world.heap.size, 0, none⟩) 0 0) 0 []) (own_empty rfl (by omega)) (fun k hk => .inr (by cases hk; simp)) (by omega)
            exact ⟨⟨_, rfl⟩, ⟨x.ext ((Ext.refl _).alloc _), rfl⟩, fun _ => e0.trans ((Ext.refl _).alloc _), (by first | (simp [upd, updv, hL, h10, h13]; exact h2) | exact h2), fun h => by simp [upd, h19] at h⟩
          rw [u7]
          go_simp
          with_reducible refine hK _ ?_
          clear hK K
          refine lx_next 2 (by rfl) (by decide) ?_
          dsimp only [List.take, List.drop]
          repeat (go_big_quiet_step (fail))
          refine wpQuiet_nil ?_
          refine lx_loud (by rfl) (by kernel_rfl) ?_ (fun K hK => ?_)
          · intro L w3 hL hd hcl hC hs
            obtain ⟨x, rfl⟩ := hC
            have hzs := x.size
            have h7 := hd 7 (by kernel_rfl)
            have h13 := hcl.off hL 40 13 (by kernel_rfl)
            have h19 := hcl.off hL 40 19 (by kernel_rfl)
            obtain ⟨h0, hF, -⟩ := hs
            have e0 := h0 h19
            simp only [hL, h7, h13, cond_true, cond_false] at hF
            rw [u7] at hF
            have hfb := HFB3.out
            refine wp_append_from rfl _ _ 25 99 _ 1 _ rfl info_bed (by kernel_rfl) rfl (by decide) wr.heap.size _ 0 [] rfl (hF.get 0 rfl) fa fb.length fc (fb.map (Value.int .i64)) rfl HFBA.out.2 (by simp) (CellsAt.vals (HFBA.out.1.ext e0)) (ints_one _ _) (by omega) (by decide) (by omega) ?_
            intro v' w4 ho4 hC4 hn4
            rw [Nat.zero_add, List.nil_append] at ho4
            obtain ⟨av, ac, rfl⟩ := own_shape ho4
            have h2 := hF.set 0 rfl hC4 (r' := Res.own wr.heap.size 99 1 (.slice av fb.length ac) fb.length (fb.map (Value.int .i64))) ho4 hn4 (by omega)
            have h3 := Chg.to_ext e0 hC4 (fun i hi => (hF.lt 0 rfl i hi).1)
            have h4 := hF.lt 0 rfl
            go_wp2
            exact ⟨⟨_, _, rfl⟩, ⟨x.chgd hC4 (fun k hk => .inl (h4 k hk).1), rfl⟩, fun _ => h3, (by first | (simp [upd, updv, hL, h7, h13, u7]; exact h2) | exact h2), fun h => by simp [upd, h19] at h⟩
          rw [u10]
          go_simp
          with_reducible refine hK _ ?_
          clear hK K
          refine lx_next 1 (by rfl) (by decide) ?_
          dsimp only [List.take, List.drop]
          repeat (go_big_quiet_step (fail))
          refine wpQuiet_nil ?_
          refine lx_loud (by rfl) (by kernel_rfl) ?_ (fun K hK => ?_)
          · intro L w3 hL hd hcl hC hs
            obtain ⟨x, rfl⟩ := hC
            have hzs := x.size
            have h19 := hcl.off hL 40 19 (by kernel_rfl)
            have h13 := hcl.off hL 40 13 (by kernel_rfl)
            obtain ⟨h0, hF, -⟩ := hs
            have e0 := h0 h19
            simp only [hL, h13, cond_false] at hF
            go_wp2
            have h2 := hF.set 1 rfl (((Ext.refl x.world).alloc (.cells #[.int .i64 0] 99)).chg _) (r' := Res.own wr.heap.size 99 1 (.slice (some ⟨x.world.heap.size, 0, none⟩) 1 1) 1 [.int .i64 0]) (own_box (by omega) (by decide) rfl) (fun k hk => .inr (by cases hk; simp)) (by omega)
            exact ⟨⟨_, rfl⟩, ⟨x.ext ((Ext.refl _).alloc _), rfl⟩, fun _ => e0.trans ((Ext.refl _).alloc _), (by first | (simp [upd, updv, hL, h13]; exact h2) | exact h2), fun h => by simp [upd, h19] at h⟩
          rw [u12]
          go_simp
          with_reducible refine hK _ ?_
          clear hK K
          refine lx_loud (by rfl) (by kernel_rfl) ?_ (fun K hK => ?_)
          · intro L w3 hL hd hcl hC hs
            obtain ⟨x, rfl⟩ := hC
            have hzs := x.size
            have h10 := hd 10 (by kernel_rfl)
            have h12 := hd 12 (by kernel_rfl)
            have h19 := hcl.off hL 40 19 (by kernel_rfl)
            obtain ⟨h0, hF, -⟩ := hs
            have e0 := h0 h19
            simp only [hL, h10, h12, cond_true, cond_false] at hF
            rw [u10, u12] at hF
            have hfb := HFB3.out
            refine wp_append_sep rfl _ _ 25 99 _ 1 _ rfl info_bed (by kernel_rfl) rfl (by decide) wr.heap.size _ fb.length _ rfl (hF.get 0 rfl) wr.heap.size k12 1 1 _ rfl (hF.get 1 rfl) (fun u hu => by rw [List.mem_singleton.1 hu]; rfl) (by omega) (by decide) (by omega) ?_
            intro v' w4 ho4 hC4 hn4
            obtain ⟨av, ac, rfl⟩ := own_shape ho4
            have h2 := hF.set 0 rfl hC4 (r' := Res.own wr.heap.size 99 1 (.slice av (fb.length + 1) ac) (fb.length + 1) (fb.map (Value.int .i64) ++ [Value.int .i64 (0 : Int)])) ho4 hn4 (by omega)
            have h3 := Chg.to_ext e0 hC4 (fun i hi => (hF.lt 0 rfl i hi).1)
            have h4 := hF.lt 0 rfl
            go_wp2
            exact ⟨⟨_, _, rfl⟩, ⟨x.chgd hC4 (fun k hk => .inl (h4 k hk).1), rfl⟩, fun _ => h3, (by first | (simp [upd, updv, hL, h10, h12, u10, u12]; exact h2) | exact h2), fun h => by simp [upd, h19] at h⟩
          rw [u13]
          go_simp
          with_reducible refine hK _ ?_
          clear hK K
          refine lx_next 5 (by rfl) (by decide) ?_
          dsimp only [List.take, List.drop]
          repeat (go_big_quiet_step (fail))
          refine wpQuiet_nil ?_
          refine lx_loud (by rfl) (by kernel_rfl) ?_ (fun K hK => ?_)
          · intro L w3 hL hd hcl hC hs
            obtain ⟨x, rfl⟩ := hC
            have hzs := x.size
            have h13 := hd 13 (by kernel_rfl)
            obtain ⟨h0, hF, -⟩ := hs
            have e0 := h0 hL
            simp only [h13, cond_true] at hF
            rw [u13] at hF
            have ho : OwnD x.world base (.slice a13 (fb ++ [0]).length c13) (fb ++ [0]) := by
              have h := own_mono (hF.get 0 rfl) HBW.out
              show x.world.ownsRow base _ 1 _ (fb ++ [0]).length ((fb ++ [0]).map (Value.int .i64))
              rw [List.length_append, List.map_append]
              exact h
            have hi := HIH.out hL_ hI_ E_ (fb ++ [0]) a13 c13 T base fv F2 x.world (by simp; have := HFB3.out; omega) HHB.out HTB2.out HEF.out (HCBR.out.ext e0) ho (HVR.out.ext e0) (Nat.le_trans HBW.out x.size) HFL2.out
            have HF3 := Lib.hid hF
            have HE0 := Lib.hid e0
            rw [show (fb ++ [(0 : Int)]).length = fb.length + 1 by simp, HNEW.out] at hi
            have HI19 := Lib.hid hi
            clear hF h0 hi ho e0
            go_wp2_with fail
            refine HI19.out.mono ?_
            rintro e w' ⟨v', rfl, h1, h2, h3⟩
            have hsh : ∃ a c, v' = .slice a (F2.length + new.length) c := by
              obtain ⟨a, c, e⟩ := h1.shape
              rw [List.length_append] at e
              exact ⟨a, c, e⟩
            obtain ⟨av, ac, rfl⟩ := hsh
            have HV1 := Lib.hid h1
            have HC1 := Lib.hid h2
            have HN1 := Lib.hid h3
            clear h1 h2 h3
            go_wp2
            refine ⟨⟨_, _, rfl⟩, ⟨x.chgd HC1.out (fun k hk => .inr fun _ => .inl hk), rfl⟩, (fun h => by simp [upd] at h), ?_, fun _ => ⟨?_, ?_, ?_⟩⟩
            · have h5 := HF3.out.low HC1.out (fun k hk => (HVR.out.from k hk).2)
              first | (simp [upd, updv, h13, u13]; exact h5) | exact h5
            · first | (simp [updv]; exact HV1.out) | exact HV1.out
            · exact (HE0.out.chg _).trans HC1.out
            · intro k hk
              have hk' : (Value.slice av (F2.length + new.length) ac).ownBlock = some k := hk
              exact (HN1.out k hk').imp id (fun h => Nat.le_trans x.size h)
          rw [u19]
          go_simp
          with_reducible refine hK _ ?_
          clear hK K
          refine lx_next 1 (by rfl) (by decide) ?_
          dsimp only [List.take, List.drop]
          repeat (go_big_quiet_step (fail))
          refine wpQuiet_nil ?_
          refine lx_nil ?_
          intro y hs
          obtain ⟨h1, h2, h3⟩ := hs.new_ rfl
          rw [u19] at h1 h3
          have HV5 := Lib.hid h1
          have HC5 := Lib.hid h2
          have HN5 := Lib.hid h3
          clear hs h1 h2 h3 hT hne2 u7 u10 u12 u13 u19 m0 m1 m2 m3 m4 m5 ml s0 s1 s2 s3 sll n0 n1 n2 n3 nl f0 f1 fl
          generalize y.world = w5 at *
          clear y T'
          have HX5 : Hid (Chg (fun q => v.ownBlock = some q) w2 w5) := Lib.hid (HCR.out.far HC5.out (fun q hq => HNR.out q hq))
          have HO5 : Hid (∀ q, (Value.slice a19 (F2.length + new.length) c19).ownBlock = some q → v.ownBlock = some q ∨ w2.heap.size ≤ q) := Lib.hid (fun q hq => by
            rcases HN5.out q hq with h | h
            · exact HNR.out q h
            · exact .inr (Nat.le_trans HCR.out.size h))
          have HEQ : Hid (F ++ ((0 :: beds).take (0 + 1)).flatMap G = F2 ++ new) := Lib.hid (by
            rw [HTAKE.out, List.flatMap_append, ← List.append_assoc, HF2.out]
            congr 1
            rw [List.flatMap_cons, List.flatMap_nil, List.append_nil]
            exact HGB.out)
          go_wp2
          go_roundw
          case rel => exact ⟨1, .slice a19 (F2.length + new.length) c19, 0, by omega, by omega, by simp, by first | rfl | go_num, by rw [HEQ.out]; exact HV5.out, HX5.out, HO5.out⟩
          case measure => simp [intOf] <;> omega
        | succ j =>
          obtain rfl : iv = (j : Int) := by omega
          clear hiv
          obtain ⟨bb, bo, hba, hbb, z0⟩ := HCBR.out j (by omega)
          obtain ⟨b, hb⟩ : ∃ b, beds[j]'(by omega) = b := ⟨_, rfl⟩
          rw [hb] at z0
          have HBV := Lib.hid hb
          have HBM : Hid (b ∈ beds) := Lib.hid (hb ▸ List.getElem_mem _)
          have HBA := Lib.hid hba
          have zl := lt_of_cell z0
          simp only at zl
          rw [hba] at c3
          clear hb hbb hba
          go_upto_region 17 with fail
          clear c3 cl z0 zl
          have HMEM : Hid ((b : Int) = 0 ∨ (b : Int) ∈ beds) := Lib.hid (.inr HBM.out)
          have HHIT : Hid (∀ W', Calls Try.prog 68 #[.agg #[.int .i64 start, .int .i64 gin, .int .i64 gout], .agg #[.int .i64 left, .bool inn, .bool false, .bool false], .int .i64 b] W' fun e w' => e = .returned (stdV (hitS gin gout left inn b)) ∧ Ext W' w') := Lib.hid (fun W' => ref_Hit start gin gout left inn b W' (beds_bounds hB HMEM.out).1 (by have h1 := (beds_bounds hB HMEM.out).2; have h2 := HLB.out; unfold I64; omega) hg hgo)
          have hhb := hit_bounds (gin := gin) (gout := gout) (inn := inn) (beds_bounds hB HMEM.out).2.1 HLB.out.1
          have hef := hitS_eff gin gout left inn b
          unfold stdV at HHIT
          have HGB : Hid (G b = allF gin gout beds sl score wins d (hitS gin gout left inn b).1 (hitS gin gout left inn b).2.1 (hitS gin gout left inn b).2.2 (fb ++ [b]) T) := Lib.hid (by rw [← HGG.out])
          obtain ⟨⟨hL_, hI_, E_⟩, hH⟩ : ∃ y, hitS gin gout left inn b = y := ⟨_, rfl⟩
          rw [hH] at HHIT hhb HGB hef
          simp only at HHIT hhb HGB hef
          have HHB : Hid (0 ≤ hL_ ∧ hL_ ≤ 2000) := Lib.hid (by have := HLB.out; omega)
          have HEF := Lib.hid hef
          clear hH hhb hef
          obtain ⟨new, hnew⟩ : ∃ y, allF gin gout beds sl score wins d hL_ hI_ E_ (fb ++ [b]) T = y := ⟨_, rfl⟩
          have HIH := Lib.hid ih
          rw [hnew] at HGB
          have HNEW := Lib.hid hnew
          clear hnew
          have m0 : ∀ y : Lat (fun q _ => fv.ownBlock = some q ∨ wr.heap.size ≤ q) wr, y.world.cell? ⟨B, 0, none⟩ = some (.int .i64 start) := fun y => (K7R.out.chg y.chg (by rintro ⟨_, e | e⟩; exact HNO.out _ (by omega) (by omega) e; exact absurd e (by have := K7R.out.lt; omega))).cell 0 rfl
          have m1 : ∀ y : Lat (fun q _ => fv.ownBlock = some q ∨ wr.heap.size ≤ q) wr, y.world.cell? ⟨B, 1, none⟩ = some (.int .i64 gin) := fun y => (K7R.out.chg y.chg (by rintro ⟨_, e | e⟩; exact HNO.out _ (by omega) (by omega) e; exact absurd e (by have := K7R.out.lt; omega))).cell 1 rfl
          have m2 : ∀ y : Lat (fun q _ => fv.ownBlock = some q ∨ wr.heap.size ≤ q) wr, y.world.cell? ⟨B, 2, none⟩ = some (.int .i64 gout) := fun y => (K7R.out.chg y.chg (by rintro ⟨_, e | e⟩; exact HNO.out _ (by omega) (by omega) e; exact absurd e (by have := K7R.out.lt; omega))).cell 2 rfl
          have m3 : ∀ y : Lat (fun q _ => fv.ownBlock = some q ∨ wr.heap.size ≤ q) wr, y.world.cell? ⟨B, 3, none⟩ = some (.slice ba beds.length bc) := fun y => (K7R.out.chg y.chg (by rintro ⟨_, e | e⟩; exact HNO.out _ (by omega) (by omega) e; exact absurd e (by have := K7R.out.lt; omega))).cell 3 rfl
          have m4 : ∀ y : Lat (fun q _ => fv.ownBlock = some q ∨ wr.heap.size ≤ q) wr, y.world.cell? ⟨B, 4, none⟩ = some (.slice sa sn sc) := fun y => (K7R.out.chg y.chg (by rintro ⟨_, e | e⟩; exact HNO.out _ (by omega) (by omega) e; exact absurd e (by have := K7R.out.lt; omega))).cell 4 rfl
          have m5 : ∀ y : Lat (fun q _ => fv.ownBlock = some q ∨ wr.heap.size ≤ q) wr, y.world.cell? ⟨B, 5, none⟩ = some (.bool won) := fun y => (K7R.out.chg y.chg (by rintro ⟨_, e | e⟩; exact HNO.out _ (by omega) (by omega) e; exact absurd e (by have := K7R.out.lt; omega))).cell 5 rfl
          have ml := K7R.out.lt
          have s0 : ∀ y : Lat (fun q _ => fv.ownBlock = some q ∨ wr.heap.size ≤ q) wr, y.world.cell? ⟨B + 1, 0, none⟩ = some (.int .i64 sl) := fun y => (K8R.out.chg y.chg (by rintro ⟨_, e | e⟩; exact HNO.out _ (by omega) (by omega) e; exact absurd e (by have := K8R.out.lt; omega))).cell 0 rfl
          have s1 : ∀ y : Lat (fun q _ => fv.ownBlock = some q ∨ wr.heap.size ≤ q) wr, y.world.cell? ⟨B + 1, 1, none⟩ = some (.bool si) := fun y => (K8R.out.chg y.chg (by rintro ⟨_, e | e⟩; exact HNO.out _ (by omega) (by omega) e; exact absurd e (by have := K8R.out.lt; omega))).cell 1 rfl
          have s2 : ∀ y : Lat (fun q _ => fv.ownBlock = some q ∨ wr.heap.size ≤ q) wr, y.world.cell? ⟨B + 1, 2, none⟩ = some (.bool false) := fun y => (K8R.out.chg y.chg (by rintro ⟨_, e | e⟩; exact HNO.out _ (by omega) (by omega) e; exact absurd e (by have := K8R.out.lt; omega))).cell 2 rfl
          have s3 : ∀ y : Lat (fun q _ => fv.ownBlock = some q ∨ wr.heap.size ≤ q) wr, y.world.cell? ⟨B + 1, 3, none⟩ = some (.bool false) := fun y => (K8R.out.chg y.chg (by rintro ⟨_, e | e⟩; exact HNO.out _ (by omega) (by omega) e; exact absurd e (by have := K8R.out.lt; omega))).cell 3 rfl
          have sll := K8R.out.lt
          have n0 : ∀ y : Lat (fun q _ => fv.ownBlock = some q ∨ wr.heap.size ≤ q) wr, y.world.cell? ⟨B + 1 + 1, 0, none⟩ = some (.int .i64 left) := fun y => (K9R.out.chg y.chg (by rintro ⟨_, e | e⟩; exact HNO.out _ (by omega) (by omega) e; exact absurd e (by have := K9R.out.lt; omega))).cell 0 rfl
          have n1 : ∀ y : Lat (fun q _ => fv.ownBlock = some q ∨ wr.heap.size ≤ q) wr, y.world.cell? ⟨B + 1 + 1, 1, none⟩ = some (.bool inn) := fun y => (K9R.out.chg y.chg (by rintro ⟨_, e | e⟩; exact HNO.out _ (by omega) (by omega) e; exact absurd e (by have := K9R.out.lt; omega))).cell 1 rfl
          have n2 : ∀ y : Lat (fun q _ => fv.ownBlock = some q ∨ wr.heap.size ≤ q) wr, y.world.cell? ⟨B + 1 + 1, 2, none⟩ = some (.bool false) := fun y => (K9R.out.chg y.chg (by rintro ⟨_, e | e⟩; exact HNO.out _ (by omega) (by omega) e; exact absurd e (by have := K9R.out.lt; omega))).cell 2 rfl
          have n3 : ∀ y : Lat (fun q _ => fv.ownBlock = some q ∨ wr.heap.size ≤ q) wr, y.world.cell? ⟨B + 1 + 1, 3, none⟩ = some (.bool false) := fun y => (K9R.out.chg y.chg (by rintro ⟨_, e | e⟩; exact HNO.out _ (by omega) (by omega) e; exact absurd e (by have := K9R.out.lt; omega))).cell 3 rfl
          have nl := K9R.out.lt
          have f0 : ∀ y : Lat (fun q _ => fv.ownBlock = some q ∨ wr.heap.size ≤ q) wr, y.world.cell? ⟨B + 1 + 1 + 1, 0, none⟩ = some (.slice fa fb.length fc) := fun y => (K10R.out.chg y.chg (by rintro ⟨_, e | e⟩; exact HNO.out _ (by omega) (by omega) e; exact absurd e (by have := K10R.out.lt; omega))).cell 0 rfl
          have f1 : ∀ y : Lat (fun q _ => fv.ownBlock = some q ∨ wr.heap.size ≤ q) wr, y.world.cell? ⟨B + 1 + 1 + 1, 1, none⟩ = some (.int .i64 tr) := fun y => (K10R.out.chg y.chg (by rintro ⟨_, e | e⟩; exact HNO.out _ (by omega) (by omega) e; exact absurd e (by have := K10R.out.lt; omega))).cell 1 rfl
          have fl := K10R.out.lt
          refine wp_region_lat (by kernel_rfl) (fun q _ => fv.ownBlock = some q ∨ wr.heap.size ≤ q) (fun k => (kAt (allK fb.length (F2.length + new.length)) k).loud) (fun k => (kAt (allK fb.length (F2.length + new.length)) k).ok) (AllG base wr.heap.size wr fv F2 new fb b) (by kernel_rfl) (fun k hk => Nat.lt_of_lt_of_le (kAt_lt hk) (Nat.le_of_ble_eq_true rfl)) (fun L L' u w' h hg => hg.congr (h 7 rfl) (h 10 rfl) (h 12 rfl) (h 13 rfl) (h 19 rfl)) (fun L u a b h hx => h.ext hx) (fun k => (kAt (allK fb.length (F2.length + new.length)) k).wit) (fun k _ => (kAt _ k).wit_ok) ⟨fun _ => (Ext.refl wr).drew, (Frm.nones _ 2 wr).ext (Ext.refl wr).drew, fun h => by cases h⟩ ?_
          intro T' hT hne2 u hu
          obtain ⟨k7, u7⟩ : ∃ k, u 7 = .slice (some ⟨k, 0, none⟩) 0 0 := hu 7 rfl
          obtain ⟨a10, c10, u10⟩ : ∃ a c, u 10 = .slice a fb.length c := hu 10 rfl
          obtain ⟨k12, u12⟩ : ∃ k, u 12 = .slice (some ⟨k, 0, none⟩) 1 1 := hu 12 rfl
          obtain ⟨a13, c13, u13⟩ : ∃ a c, u 13 = .slice a (fb.length + 1) c := hu 13 rfl
          obtain ⟨a19, c19, u19⟩ : ∃ a c, u 19 = .slice a (F2.length + new.length) c := hu 19 rfl
          clear hu
          refine lx_next 7 (by rfl) (by decide) ?_
          dsimp only [List.take, List.drop]
          repeat (go_big_quiet_step (with_reducible refine Calls.lat hT (HHIT.out _)))
          refine wpQuiet_nil ?_
          refine lx_loud (by rfl) (by kernel_rfl) ?_ (fun K hK => ?_)
          · intro L w3 hL hd hcl hC hs
            obtain ⟨x, rfl⟩ := hC
            have hzs := x.size
            have h10 := hcl.off hL 40 10 (by kernel_rfl)
            have h13 := hcl.off hL 40 13 (by kernel_rfl)
            have h19 := hcl.off hL 40 19 (by kernel_rfl)
            obtain ⟨h0, hF, -⟩ := hs
            have e0 := h0 h19
            simp only [hL, h10, h13, cond_false] at hF
            go_wp2
            have h2 := hF.set 0 rfl (((Ext.refl x.world).alloc (.cells #[] 99)).chg _) (r' := Res.own wr.heap.size 99 1 (.slice (some ⟨x.world.heap.size, 0, none⟩) 0 0) 0 []) (own_empty rfl (by omega)) (fun k hk => .inr (by cases hk; simp)) (by omega)
            exact ⟨⟨_, rfl⟩, ⟨x.ext ((Ext.refl _).alloc _), rfl⟩, fun _ => e0.trans ((Ext.refl _).alloc _), (by first | (simp [upd, updv, hL, h10, h13]; exact h2) | exact h2), fun h => by simp [upd, h19] at h⟩
          rw [u7]
          go_simp
          with_reducible refine hK _ ?_
          clear hK K
          refine lx_next 2 (by rfl) (by decide) ?_
          dsimp only [List.take, List.drop]
          repeat (go_big_quiet_step (fail))
          refine wpQuiet_nil ?_
          refine lx_loud (by rfl) (by kernel_rfl) ?_ (fun K hK => ?_)
          · intro L w3 hL hd hcl hC hs
            obtain ⟨x, rfl⟩ := hC
            have hzs := x.size
            have h7 := hd 7 (by kernel_rfl)
            have h13 := hcl.off hL 40 13 (by kernel_rfl)
            have h19 := hcl.off hL 40 19 (by kernel_rfl)
            obtain ⟨h0, hF, -⟩ := hs
            have e0 := h0 h19
            simp only [hL, h7, h13, cond_true, cond_false] at hF
            rw [u7] at hF
            have hfb := HFB3.out
            refine wp_append_from rfl _ _ 25 99 _ 1 _ rfl info_bed (by kernel_rfl) rfl (by decide) wr.heap.size _ 0 [] rfl (hF.get 0 rfl) fa fb.length fc (fb.map (Value.int .i64)) rfl HFBA.out.2 (by simp) (CellsAt.vals (HFBA.out.1.ext e0)) (ints_one _ _) (by omega) (by decide) (by omega) ?_
            intro v' w4 ho4 hC4 hn4
            rw [Nat.zero_add, List.nil_append] at ho4
            obtain ⟨av, ac, rfl⟩ := own_shape ho4
            have h2 := hF.set 0 rfl hC4 (r' := Res.own wr.heap.size 99 1 (.slice av fb.length ac) fb.length (fb.map (Value.int .i64))) ho4 hn4 (by omega)
            have h3 := Chg.to_ext e0 hC4 (fun i hi => (hF.lt 0 rfl i hi).1)
            have h4 := hF.lt 0 rfl
            go_wp2
            exact ⟨⟨_, _, rfl⟩, ⟨x.chgd hC4 (fun k hk => .inl (h4 k hk).1), rfl⟩, fun _ => h3, (by first | (simp [upd, updv, hL, h7, h13, u7]; exact h2) | exact h2), fun h => by simp [upd, h19] at h⟩
          rw [u10]
          go_simp
          with_reducible refine hK _ ?_
          clear hK K
          refine lx_next 1 (by rfl) (by decide) ?_
          dsimp only [List.take, List.drop]
          repeat (go_big_quiet_step (fail))
          refine wpQuiet_nil ?_
          refine lx_loud (by rfl) (by kernel_rfl) ?_ (fun K hK => ?_)
          · intro L w3 hL hd hcl hC hs
            obtain ⟨x, rfl⟩ := hC
            have hzs := x.size
            have h19 := hcl.off hL 40 19 (by kernel_rfl)
            have h13 := hcl.off hL 40 13 (by kernel_rfl)
            obtain ⟨h0, hF, -⟩ := hs
            have e0 := h0 h19
            simp only [hL, h13, cond_false] at hF
            go_wp2
            have h2 := hF.set 1 rfl (((Ext.refl x.world).alloc (.cells #[.int .i64 b] 99)).chg _) (r' := Res.own wr.heap.size 99 1 (.slice (some ⟨x.world.heap.size, 0, none⟩) 1 1) 1 [.int .i64 b]) (own_box (by omega) (by decide) rfl) (fun k hk => .inr (by cases hk; simp)) (by omega)
            exact ⟨⟨_, rfl⟩, ⟨x.ext ((Ext.refl _).alloc _), rfl⟩, fun _ => e0.trans ((Ext.refl _).alloc _), (by first | (simp [upd, updv, hL, h13]; exact h2) | exact h2), fun h => by simp [upd, h19] at h⟩
          rw [u12]
          go_simp
          with_reducible refine hK _ ?_
          clear hK K
          refine lx_loud (by rfl) (by kernel_rfl) ?_ (fun K hK => ?_)
          · intro L w3 hL hd hcl hC hs
            obtain ⟨x, rfl⟩ := hC
            have hzs := x.size
            have h10 := hd 10 (by kernel_rfl)
            have h12 := hd 12 (by kernel_rfl)
            have h19 := hcl.off hL 40 19 (by kernel_rfl)
            obtain ⟨h0, hF, -⟩ := hs
            have e0 := h0 h19
            simp only [hL, h10, h12, cond_true, cond_false] at hF
            rw [u10, u12] at hF
            have hfb := HFB3.out
            refine wp_append_sep rfl _ _ 25 99 _ 1 _ rfl info_bed (by kernel_rfl) rfl (by decide) wr.heap.size _ fb.length _ rfl (hF.get 0 rfl) wr.heap.size k12 1 1 _ rfl (hF.get 1 rfl) (fun u hu => by rw [List.mem_singleton.1 hu]; rfl) (by omega) (by decide) (by omega) ?_
            intro v' w4 ho4 hC4 hn4
            obtain ⟨av, ac, rfl⟩ := own_shape ho4
            have h2 := hF.set 0 rfl hC4 (r' := Res.own wr.heap.size 99 1 (.slice av (fb.length + 1) ac) (fb.length + 1) (fb.map (Value.int .i64) ++ [Value.int .i64 (b : Int)])) ho4 hn4 (by omega)
            have h3 := Chg.to_ext e0 hC4 (fun i hi => (hF.lt 0 rfl i hi).1)
            have h4 := hF.lt 0 rfl
            go_wp2
            exact ⟨⟨_, _, rfl⟩, ⟨x.chgd hC4 (fun k hk => .inl (h4 k hk).1), rfl⟩, fun _ => h3, (by first | (simp [upd, updv, hL, h10, h12, u10, u12]; exact h2) | exact h2), fun h => by simp [upd, h19] at h⟩
          rw [u13]
          go_simp
          with_reducible refine hK _ ?_
          clear hK K
          refine lx_next 5 (by rfl) (by decide) ?_
          dsimp only [List.take, List.drop]
          repeat (go_big_quiet_step (fail))
          refine wpQuiet_nil ?_
          refine lx_loud (by rfl) (by kernel_rfl) ?_ (fun K hK => ?_)
          · intro L w3 hL hd hcl hC hs
            obtain ⟨x, rfl⟩ := hC
            have hzs := x.size
            have h13 := hd 13 (by kernel_rfl)
            obtain ⟨h0, hF, -⟩ := hs
            have e0 := h0 hL
            simp only [h13, cond_true] at hF
            rw [u13] at hF
            have ho : OwnD x.world base (.slice a13 (fb ++ [b]).length c13) (fb ++ [b]) := by
              have h := own_mono (hF.get 0 rfl) HBW.out
              show x.world.ownsRow base _ 1 _ (fb ++ [b]).length ((fb ++ [b]).map (Value.int .i64))
              rw [List.length_append, List.map_append]
              exact h
            have hi := HIH.out hL_ hI_ E_ (fb ++ [b]) a13 c13 T base fv F2 x.world (by simp; have := HFB3.out; omega) HHB.out HTB2.out HEF.out (HCBR.out.ext e0) ho (HVR.out.ext e0) (Nat.le_trans HBW.out x.size) HFL2.out
            have HF3 := Lib.hid hF
            have HE0 := Lib.hid e0
            rw [show (fb ++ [(b : Int)]).length = fb.length + 1 by simp, HNEW.out] at hi
            have HI19 := Lib.hid hi
            clear hF h0 hi ho e0
            go_wp2_with fail
            refine HI19.out.mono ?_
            rintro e w' ⟨v', rfl, h1, h2, h3⟩
            have hsh : ∃ a c, v' = .slice a (F2.length + new.length) c := by
              obtain ⟨a, c, e⟩ := h1.shape
              rw [List.length_append] at e
              exact ⟨a, c, e⟩
            obtain ⟨av, ac, rfl⟩ := hsh
            have HV1 := Lib.hid h1
            have HC1 := Lib.hid h2
            have HN1 := Lib.hid h3
            clear h1 h2 h3
            go_wp2
            refine ⟨⟨_, _, rfl⟩, ⟨x.chgd HC1.out (fun k hk => .inr fun _ => .inl hk), rfl⟩, (fun h => by simp [upd] at h), ?_, fun _ => ⟨?_, ?_, ?_⟩⟩
            · have h5 := HF3.out.low HC1.out (fun k hk => (HVR.out.from k hk).2)
              first | (simp [upd, updv, h13, u13]; exact h5) | exact h5
            · first | (simp [updv]; exact HV1.out) | exact HV1.out
            · exact (HE0.out.chg _).trans HC1.out
            · intro k hk
              have hk' : (Value.slice av (F2.length + new.length) ac).ownBlock = some k := hk
              exact (HN1.out k hk').imp id (fun h => Nat.le_trans x.size h)
          rw [u19]
          go_simp
          with_reducible refine hK _ ?_
          clear hK K
          refine lx_next 1 (by rfl) (by decide) ?_
          dsimp only [List.take, List.drop]
          repeat (go_big_quiet_step (fail))
          refine wpQuiet_nil ?_
          refine lx_nil ?_
          intro y hs
          obtain ⟨h1, h2, h3⟩ := hs.new_ rfl
          rw [u19] at h1 h3
          have HV5 := Lib.hid h1
          have HC5 := Lib.hid h2
          have HN5 := Lib.hid h3
          clear hs h1 h2 h3 hT hne2 u7 u10 u12 u13 u19 m0 m1 m2 m3 m4 m5 ml s0 s1 s2 s3 sll n0 n1 n2 n3 nl f0 f1 fl
          generalize y.world = w5 at *
          clear y T'
          have HX5 : Hid (Chg (fun q => v.ownBlock = some q) w2 w5) := Lib.hid (HCR.out.far HC5.out (fun q hq => HNR.out q hq))
          have HO5 : Hid (∀ q, (Value.slice a19 (F2.length + new.length) c19).ownBlock = some q → v.ownBlock = some q ∨ w2.heap.size ≤ q) := Lib.hid (fun q hq => by
            rcases HN5.out q hq with h | h
            · exact HNR.out q h
            · exact .inr (Nat.le_trans HCR.out.size h))
          have HEQ : Hid (F ++ ((0 :: beds).take (j + 1 + 1)).flatMap G = F2 ++ new) := Lib.hid (by
            rw [HTAKE.out, List.flatMap_append, ← List.append_assoc, HF2.out]
            congr 1
            rw [List.flatMap_cons, List.flatMap_nil, List.append_nil, List.getElem_cons_succ, HBV.out]
            exact HGB.out)
          go_wp2
          go_roundw
          case rel => exact ⟨j + 1 + 1, .slice a19 (F2.length + new.length) c19, ((j + 1 : Nat) : Int), by omega, by omega, by simp, by go_num, by rw [HEQ.out]; exact HV5.out, HX5.out, HO5.out⟩
          case measure => simp [intOf] <;> omega
      · obtain rfl : k = beds.length + 1 := by omega
        have hni : ¬ iv < (beds.length : Int) := by omega
        have hvv := HVR0.out
        rw [List.take_of_length_le (by simp)] at hvv
        have HVV := Lib.hid hvv
        clear hvv
        go_wp2
        refine bodyPost_ret (v := fv) (by simp [results, Try.results55, go_sem]) rfl ⟨fv, rfl, HVV.out, (HX2.out.chg _).trans HCR.out, fun q hq => ?_⟩
        rcases HNR.out q hq with h | h
        · exact .inl h
        · exact .inr (Nat.le_trans HX2.out.size h)
end Go.Proofs.Ytmopadnkjlodnaa
