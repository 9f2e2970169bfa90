/-
  The laws of chapter 6: within, visits.
-/
import Derived.Test.YtmopadnkjlodnaaNtw
import Derived.Test.YtmopadnkjlodnaaLxa
import Derived.Test.YtmopadnkjlodnaaMsp
namespace Go.Proofs.Ytmopadnkjlodnaa
open Go.RowKit Go.BigFrame
attribute [local go_sem] Later.cell Later.frozen
theorem law_within (num den a b c d : Int) (w : World) (hn : 0 ≤ num ∧ num ≤ 1000000) (hd : 0 ≤ den ∧ den ≤ 1000000) (ha : 0 ≤ a ∧ a ≤ 1000000) (hb : 0 ≤ b ∧ b ≤ 1000000) (hc : 0 ≤ c ∧ c ≤ 1000000) (hd2 : 0 ≤ d ∧ d ≤ 1000000) :
    Calls Try.prog 41 #[.int .i64 num, .int .i64 den, .agg #[.int .i64 a, .int .i64 b, .int .i64 c, .int .i64 d]] w fun e w' => e = .returned (.bool (winB num den ⟨⟨a, b⟩, ⟨c, d⟩⟩)) ∧ Ext w w' := by
  have key : ∀ x y : Int, 0 ≤ x ∧ x ≤ 1000000 → 0 ≤ y ∧ y ≤ 1000000 → wrap64 (x * y) = x * y ∧ I64 (x * y) := fun x y hx hy => by
    have h1 := Int.mul_nonneg hx.1 hy.1
    have h2 := Int.mul_le_mul hx.2 hy.2 hy.1 (by decide)
    have h3 : I64 (x * y) := ⟨by omega, by omega⟩
    exact ⟨wrap64_in' h3, h3⟩
  obtain ⟨k1, -⟩ := key num b hn hb
  obtain ⟨k2, -⟩ := key a den ha hd
  obtain ⟨k3, -⟩ := key num d hn hd2
  obtain ⟨k4, -⟩ := key c den hc hd
  obtain ⟨R, hR⟩ : ∃ R, winB num den ⟨⟨a, b⟩, ⟨c, d⟩⟩ = R := ⟨_, rfl⟩
  have HR : Hid ((decide (a * den ≤ num * b) && decide (num * d ≤ c * den)) = R) := Lib.hid hR
  rw [hR]
  clear hR key hn hd ha hb hc hd2
  obtain ⟨p1, e1⟩ : ∃ y, num * b = y := ⟨_, rfl⟩
  obtain ⟨p2, e2⟩ : ∃ y, a * den = y := ⟨_, rfl⟩
  obtain ⟨p3, e3⟩ : ∃ y, num * d = y := ⟨_, rfl⟩
  obtain ⟨p4, e4⟩ : ∃ y, c * den = y := ⟨_, rfl⟩
  rw [e1, e2, e3, e4] at HR
  rw [e1] at k1
  rw [e2] at k2
  rw [e3] at k3
  rw [e4] at k4
  have f1 : wrap64 (num * b) = p1 := by rw [e1]; exact k1
  have f2 : wrap64 (a * den) = p2 := by rw [e2]; exact k2
  have f3 : wrap64 (num * d) = p3 := by rw [e3]; exact k3
  have f4 : wrap64 (c * den) = p4 := by rw [e4]; exact k4
  clear k1 k2 k3 k4 e1 e2 e3 e4
  by_cases h1 : p2 ≤ p1
  · by_cases h2 : p3 ≤ p4
    · obtain rfl : R = true := by rw [← HR.out, decide_eq_true h1, decide_eq_true h2]; rfl
      go_enter Try.func41, Try.ntmps41
      go_wp2
      go_ret
      exact ⟨rfl, (Ext.refl w).alloc _⟩
    · obtain rfl : R = false := by rw [← HR.out, decide_eq_true h1, decide_eq_false h2]; rfl
      go_enter Try.func41, Try.ntmps41
      go_wp2
      go_ret
      exact ⟨rfl, (Ext.refl w).alloc _⟩
  · obtain rfl : R = false := by rw [← HR.out, decide_eq_false h1]; rfl
    go_enter Try.func41, Try.ntmps41
    go_wp2
    go_ret
    exact ⟨rfl, (Ext.refl w).alloc _⟩
set_option maxRecDepth 100000 in
set_option maxHeartbeats 8000000 in
theorem law_copies (vs : List (List Int)) (va : Option Addr) (vc : Nat) (w : World) (hV : VsA w va vs) (hn : vs.length ≤ 1000) (hl : ∀ v ∈ vs, v.length ≤ 1000) :
    Calls Try.prog 38 #[.slice va vs.length vc] w fun e w' => ∃ v, e = .returned v ∧ WaysAt w' w.heap.size v vs ∧ Ext w w' := by
  have HV := Lib.hid hV
  have HL := Lib.hid hl
  have HVL := Lib.hid hn
  clear hV hl hn
  go_enter Try.func38, Try.ntmps38
  go_wp2
  go_loopw [3, 4] (fun s i wr => ∃ (k : Nat) (sa : Option Addr) (sc : Nat), k ≤ vs.length ∧ s = .slice sa k sc ∧ i = .int .i64 k ∧ WaysAt wr w.heap.size (.slice sa k sc) (vs.take k) ∧ Ext w wr) (fun _ i _ => vs.length - (intOf i).toNat)
  case atStart => exact ⟨0, _, _, Nat.zero_le _, rfl, rfl, ⟨[], own_empty rfl (Nat.le_refl _), rfl, fun i hi => absurd hi (by simp)⟩, (Ext.refl w).alloc _⟩
  case round =>
    obtain ⟨k, sa, sc, hk, rfl, rfl, hW, hx⟩ := hrel
    have HW := Lib.hid hW
    have HXr := Lib.hid hx
    have hvl := HVL.out
    clear hW hx
    by_cases hlt : k < vs.length
    · obtain ⟨bb, bo, ra, rc, rfl, hcell, hbed⟩ := HV.out k hlt
      have HTK := Lib.hid (List.take_succ_eq_append_getElem hlt)
      have HMEM := Lib.hid (List.getElem_mem hlt)
      obtain ⟨x, hx⟩ : ∃ x, vs[k] = x := ⟨_, rfl⟩
      rw [hx] at hcell hbed HTK HMEM
      have HC := Lib.hid (HXr.out.cell hcell)
      have HBX := Lib.hid (hbed.ext HXr.out)
      have HX6 : Hid (x.length ≤ 1000) := Lib.hid (HL.out _ HMEM.out)
      have c0 := HC.out
      have cl := lt_of_cell c0
      simp only at cl
      have HE : Hid (OwnD (wr.alloc (.cells #[] 99)) w.heap.size (.slice (some ⟨wr.heap.size, 0, none⟩) 0 0) []) := Lib.hid (own_empty rfl HXr.out.size)
      have HSZ := Lib.hid HXr.out.size
      clear hx hcell hbed
      go_wp2_with (at_builtin; refine wp_append_vals rfl _ _ 25 99 (.int .i64 0) 1 8 rfl info_bed (by kernel_rfl) rfl (by decide) w.heap.size _ 0 [] rfl HE.out ra x.length rc (x.map (Value.int .i64)) rfl HBX.out.nil (by simp) (CellsAt.vals (HBX.out.cells.ext ((Ext.refl wr).alloc _))) (ints_one _ _) (by have := HX6.out; omega) (by omega) (by have := HSZ.out; simp; omega) ?_)
      intro v7 w7 hO7 hg7
      have hE7 := Chg.to_ext ((Ext.refl wr).alloc (.cells #[] 99)) (grown_chg hg7) (fun i e => by cases e; exact Nat.le_refl _)
      have hO7 : OwnD w7 w.heap.size v7 x := by simpa [OwnD] using hO7
      obtain ⟨xa, xc, rfl⟩ := own_shape hO7
      have HO7 : Hid (OwnD w7 w.heap.size (.slice xa x.length xc) x) := Lib.hid hO7
      have HX7 := Lib.hid hE7
      have HW7 := Lib.hid (HW.out.ext hE7)
      clear hO7 hg7 hE7 HE c0 cl
      obtain ⟨vals, hv1, hv2, hv3⟩ := HW7.out.ext ((Ext.refl w7).alloc (.cells #[.slice xa x.length xc] 25))
      rw [List.length_take, Nat.min_eq_left hk] at hv1
      have HV1 := Lib.hid hv1
      have HV2 := Lib.hid hv2
      have HV3 := Lib.hid hv3
      have HSZ7 := Lib.hid (Nat.le_trans HSZ.out HX7.out.size)
      clear hv1 hv2 hv3
      go_wp2_with (at_builtin; refine wp_append_vals rfl _ _ 46 25 (.slice none 0 0) 1 24 rfl info_beds (by kernel_rfl) rfl (by decide) w.heap.size _ k vals rfl HV1.out (some ⟨w7.heap.size, 0, none⟩) 1 1 [.slice xa x.length xc] rfl (fun h => by cases h) rfl ?_ ?_ (by omega) (by omega) (by have := HSZ7.out; simp; omega) ?_)
      · intro ad had j u hj
        cases had
        match j, hj with
        | 0, hj => cases hj; rw [addr_add]; exact (Blk.new w7 _ _).cell 0 rfl
      · intro u hu
        cases hu with
        | head => rfl
        | tail _ h => cases h
      intro v8 w8 hO8 hg8
      have hlen : (vs.take k).length = k := by rw [List.length_take, Nat.min_eq_left hk]
      have hw8 : WaysAt w8 w.heap.size v8 (vs.take k ++ [x]) := WaysAt.snoc (by rw [hlen]; exact HV1.out) HV2.out HV3.out (HO7.out.ext ((Ext.refl w7).alloc _)) (by rw [hlen]; exact hO8) (grown_chg hg8)
      have hX8 : Ext w w8 := Chg.to_ext ((HXr.out.trans HX7.out).alloc _) (grown_chg hg8) (fun i e => (World.ownsRow.lt HV1.out i e).1)
      rw [← HTK.out] at hw8
      have hsh : ∃ a c, v8 = .slice a (k + 1) c := by
        obtain ⟨a, c, e⟩ := hw8.shape
        rw [List.length_take, Nat.min_eq_left hlt] at e
        exact ⟨a, c, e⟩
      obtain ⟨ta, tc, rfl⟩ := hsh
      have HW8 := Lib.hid hw8
      have HX8 := Lib.hid hX8
      clear hlen hO8 hg8 hw8 hX8
      go_wp2
      go_roundw
      case rel => exact ⟨k + 1, _, _, by omega, rfl, by go_num, HW8.out, HX8.out⟩
      case measure => simp [intOf]; omega
    · obtain rfl : k = vs.length := by omega
      have HW' := Lib.hid (by have h := HW.out; rw [List.take_length] at h; exact h)
      clear HW
      go_wp2
      go_ret
      exact ⟨_, rfl, HW'.out, HXr.out⟩
end Go.Proofs.Ytmopadnkjlodnaa
