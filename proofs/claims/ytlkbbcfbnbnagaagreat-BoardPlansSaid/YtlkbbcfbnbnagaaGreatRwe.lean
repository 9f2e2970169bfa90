/-
  The statements of chapter 1: copies of weeks.
-/
import Derived.Test.YtlkbbcfbnbnagaaGreatRwd
import Derived.Test.YtlkbbcfbnbnagaaGreatLbc
namespace Go.Proofs.YtlkbbcfbnbnagaaGreat
open Go.RowKit Go.BigFrame
attribute [local go_sem] Later.cell Later.frozen
theorem info_sl : (Tryz.prog.info? 24).map (fun i => (i.zero, i.size, i.bytes)) = some (some (.slice none 0 0), 1, 24) := by kernel_rfl
theorem own_type {w : World} {base size n : Nat} {e : TypeId} {v : Value} {xs : List Value} (h : w.ownsRow base e size v n xs) : ∀ k, v.ownBlock = some k → ∃ cs, w.heap[k]? = some (.cells cs e (0, 0)) := by
  intro k hk
  obtain ⟨h1, ⟨e1, h2⟩ | ⟨g, cap, cur, e1, h2, h3, h4⟩⟩ := h
  · rw [e1] at hk; cases hk
  · rw [e1] at hk; cases hk; exact ⟨cur, h3⟩
/-- Rows of different types lie in different blocks. -/
theorem own_apart {w : World} {b1 b2 z1 z2 n1 n2 : Nat} {e1 e2 : TypeId} {v1 v2 : Value} {x1 x2 : List Value} (h1 : w.ownsRow b1 e1 z1 v1 n1 x1) (h2 : w.ownsRow b2 e2 z2 v2 n2 x2) (hne : e1 ≠ e2) : ∀ k, v1.ownBlock = some k → ¬ v2.ownBlock = some k := by
  intro k hk1 hk2
  obtain ⟨c1, h1⟩ := own_type h1 k hk1
  obtain ⟨c2, h2⟩ := own_type h2 k hk2
  rw [h1] at h2
  cases h2
  exact hne rfl
def Wk2 (W : World) (base : Nat) (vals : List Value) (wks : List (List Int)) : Prop := vals.length = wks.length ∧ ∀ (i : Nat) (u : Value) (wk : List Int), vals[i]? = some u → wks[i]? = some wk → OwnI W base u wk
theorem Wk2.nil (W : World) (base : Nat) : Wk2 W base [] [] := ⟨rfl, fun i u wk h => by simp at h⟩
theorem Wk2.ext {W W' : World} {base : Nat} {vals : List Value} {wks : List (List Int)} (h : Wk2 W base vals wks) (hx : Ext W W') : Wk2 W' base vals wks := ⟨h.1, fun i u wk h1 h2 => (h.2 i u wk h1 h2).ext hx⟩
theorem Wk2.grow {W W' : World} {base b2 n : Nat} {v : Value} {xs vals : List Value} {wks : List (List Int)} (h : Wk2 W base vals wks) (ho : W.ownsRow b2 24 1 v n xs) (hx : Chg (fun k => v.ownBlock = some k) W W') : Wk2 W' base vals wks :=
  ⟨h.1, fun i u wk h1 h2 => own_chg (h.2 i u wk h1 h2) hx (own_apart (h.2 i u wk h1 h2) ho (by decide))⟩
theorem Wk2.snoc {W : World} {base : Nat} {vals : List Value} {wks : List (List Int)} {u : Value} {wk : List Int} (h : Wk2 W base vals wks) (hu : OwnI W base u wk) : Wk2 W base (vals ++ [u]) (wks ++ [wk]) := by
  refine ⟨by simp [h.1], fun i u' wk' h1 h2 => ?_⟩
  rcases Nat.lt_or_ge i vals.length with hi | hi
  · rw [List.getElem?_append_left hi] at h1
    rw [List.getElem?_append_left (by rw [← h.1]; exact hi)] at h2
    exact h.2 i u' wk' h1 h2
  · rw [List.getElem?_append_right hi] at h1
    rw [List.getElem?_append_right (by rw [← h.1]; exact hi), ← h.1] at h2
    rcases Nat.eq_zero_or_pos (i - vals.length) with e | e
    · rw [e] at h1 h2
      simp only [List.getElem?_cons_zero, Option.some.injEq] at h1 h2
      subst h1 h2
      exact hu
    · obtain ⟨j, hj⟩ : ∃ j, i - vals.length = j + 1 := ⟨i - vals.length - 1, by omega⟩
      rw [hj] at h1
      simp at h1
theorem Wk2.at {W : World} {base b2 n : Nat} {v : Value} {vals : List Value} {wks : List (List Int)} (h : Wk2 W base vals wks) (hn : n = wks.length) (ho : W.ownsRow b2 24 1 v n vals) : WksAt S0 W v wks := by
  subst hn
  obtain ⟨h1, ⟨e, h2⟩ | ⟨g, cap, cur, e, h2, h3, h4, h5, h6, h7⟩⟩ := ho
  · exact ⟨none, 0, by rw [e, h2], by omega, by decide, fun i hi => by omega⟩
  · refine ⟨_, cap, e, h4, h5, fun i hi => ?_⟩
    have hv : i < vals.length := by rw [h.1]; exact hi
    refine ⟨g, 0, cur, _, _, vals[i], rfl, id, h3, ?_, RdI.of_own (h.2 i vals[i] wks[i] (List.getElem?_eq_getElem hv) (List.getElem?_eq_getElem hi)) (fun _ _ => id)⟩
    have : (cur.toList.take (wks.length * 1))[i]? = some vals[i] := by rw [h7]; exact List.getElem?_eq_getElem hv
    rw [List.getElem?_take_of_lt (by omega)] at this
    rw [Nat.zero_add]
    simpa using this
theorem own_one {w : World} {base size n : Nat} {e : TypeId} {v : Value} {xs : List Value} (h : w.ownsRow base e size v n xs) : v.oneCell' = true := by
  obtain ⟨a, c, rfl⟩ := own_shape h
  rfl
set_option maxHeartbeats 2000000 in
theorem law_weeks (wks : List (List Int)) (a : Option Addr) (c : Nat) (w : World) (h : WkC w a wks) (hl : wks.length ≤ 1000) (hs : ∀ wk ∈ wks, wk.length ≤ 1000000) :
    Calls Tryz.prog 9 #[.slice a wks.length c] w fun e w' => ∃ u, e = .returned u ∧ WksAt S0 w' u wks ∧ Ext w w' := by
  have HW := Lib.hid h
  have HS := Lib.hid hs
  have HE := Lib.hid (show (w.alloc (.cells #[] 24)).ownsRow w.heap.size 24 1 (.slice (some ⟨w.heap.size, 0, none⟩) 0 0) 0 [] from own_empty rfl (Nat.le_refl _))
  clear h hs
  go_enter Tryz.func9, Tryz.ntmps9
  go_wp2
  go_loopw [3, 4] (fun v i wr => ∃ k : Nat, k ≤ wks.length ∧ i = .int .i64 k ∧ (∃ vals, wr.ownsRow w.heap.size 24 1 v k vals ∧ Wk2 wr w.heap.size vals (wks.take k)) ∧ Ext w wr) (fun _ i _ => wks.length - (intOf i).toNat)
  case atStart => exact ⟨0, Nat.zero_le _, rfl, ⟨[], HE.out, Wk2.nil _ _⟩, (Ext.refl w).alloc _⟩
  case round =>
    obtain ⟨k, hk, rfl, ⟨vals, ho, h2⟩, hx⟩ := hrel
    obtain ⟨va, vc, rfl⟩ := own_shape ho
    have HO := Lib.hid ho
    have H2 := Lib.hid h2
    have HX := Lib.hid hx
    clear ho h2 hx
    by_cases hlt : k < wks.length
    · obtain ⟨b, o, ua, uc, e, hcu, hca, hnn⟩ := (HW.out.ext HX.out) k hlt
      subst e
      have hbl := lt_of_cell hcu
      simp only at hbl
      have hwl := HS.out wks[k] (List.getElem_mem hlt)
      have HT := Lib.hid (List.take_succ_eq_append_getElem hlt)
      generalize wks[k] = wk at *
      have HIN := Lib.hid (law_ints wk ua uc wr hca hnn hwl)
      clear hca hnn
      go_wp2_with fail
      refine HIN.out.mono ?_
      rintro e w1 ⟨v1, rfl, hO1, hx1⟩
      obtain ⟨d1, dc, rfl⟩ := own_shape hO1
      have HO1 := Lib.hid (own_mono (base' := w.heap.size) hO1 HX.out.size)
      have HO' := Lib.hid (own_chg HO.out (hx1.chg fun _ => False) fun _ _ => id)
      have H2' := Lib.hid (H2.out.ext hx1)
      have HX1 := Lib.hid (HX.out.trans hx1)
      have hkl : k ≤ 1000 := by omega
      have hbw : w.heap.size ≤ w1.heap.size := HX1.out.size
      clear hO1 hx1 hcu hbl
      obtain ⟨w2, hw2⟩ : ∃ y, y = w1.alloc (.cells #[.slice d1 wk.length dc] 24) := ⟨_, rfl⟩
      have hx12 : Ext w1 w2 := by rw [hw2]; exact (Ext.refl w1).alloc _
      have hbk : Blk w2 w1.heap.size #[.slice d1 wk.length dc] := by rw [hw2]; exact Blk.new _ _ _
      have HOa := Lib.hid (own_chg HO'.out (hx12.chg fun _ => False) fun _ _ => id)
      have HOb := Lib.hid (own_chg HO1.out (hx12.chg fun _ => False) fun _ _ => id)
      have H2a := Lib.hid (H2'.out.ext hx12)
      have HX2 := Lib.hid (HX1.out.trans hx12)
      have HBK := Lib.hid hbk
      have hb2 : w.heap.size ≤ w2.heap.size := HX2.out.size
      have HW2 := Lib.hid hw2
      clear hx12 hbk hw2
      go_wp2_with (at_builtin; rw [← HW2.out]; refine wp_append_from rfl _ _ 27 24 (.slice none 0 0) 1 24 rfl info_sl (by kernel_rfl) rfl (by decide) w.heap.size _ k vals rfl HOa.out (some ⟨w1.heap.size, 0, none⟩) 1 1 [.slice d1 wk.length dc] rfl (fun h => by cases h) rfl (fun ad e j u hu => by cases e; rw [addr_add]; match j, hu with | 0, hu => (simp at hu; subst hu; exact HBK.out.cell 0 rfl)) (fun u hu => by simp at hu; subst hu; rfl) (by omega) (by decide) hb2 ?_)
      intro v' w5 ho5 hC5 hn5
      obtain ⟨av, ac, rfl⟩ := own_shape ho5
      have HV5 := Lib.hid ((H2a.out.grow HOa.out hC5).snoc (own_chg HOb.out hC5 (own_apart HOb.out HOa.out (by decide))))
      have HO5 := Lib.hid ho5
      have HX5 := Lib.hid (Chg.to_ext HX2.out hC5 (fun j e => (own_lt HOa.out j e).1))
      rw [← HT.out] at HV5
      clear ho5 hC5 hn5
      go_wp2
      go_roundw
      case rel => exact ⟨k + 1, by omega, by go_num, ⟨_, HO5.out, HV5.out⟩, HX5.out⟩
      case measure => simp [intOf]; omega
    · obtain rfl : k = wks.length := by omega
      have HF := Lib.hid (H2.out.at (by rw [List.length_take, Nat.min_self]) HO.out)
      rw [List.take_of_length_le (Nat.le_refl _)] at HF
      go_wp2
      go_ret
      exact ⟨_, rfl, HF.out, HX.out⟩
end Go.Proofs.YtlkbbcfbnbnagaaGreat
