/-
  The statements of chapter 1: wear in bytes, copies of weeks, sums and greatest ones.
-/
import Derived.Test.YtlkbbcfbnbnagaaLbc
import Derived.Test.YtlkbbcfbnbnagaaSen
import Derived.Test.YtlkbbcfbnbnagaaBoP
import Derived.Test.YtlkbbcfbnbnagaaEvp
namespace Go.Proofs.Ytlkbbcfbnbnagaa
open Go.RowKit Go.BigFrame
attribute [local go_sem] Later.cell Later.frozen
theorem law_sum (xs : List Int) (a : Option Addr) (c : Nat) (w : World) (hx : CellsAt w .i64 a xs) (hl : xs.length ≤ 1000) (hb : ∀ y ∈ xs, 0 ≤ y ∧ y ≤ 1000000000) :
    Calls Try.prog 36 #[.slice a xs.length c] w fun e w' => e = .returned (.int .i64 (sumL xs)) ∧ Ext w w' := by
  have HX := Lib.hid hx
  have HB := Lib.hid hb
  have HS : Hid (∀ k, k ≤ xs.length → 0 ≤ sumL (xs.take k) ∧ sumL (xs.take k) ≤ 1000000000 * (k : Int)) := Lib.hid (fun k hk => by
    have h1 := (sumL_pos (xs.take k) fun y hy => (hb y (List.mem_of_mem_take hy)).1).1
    have h2 := sumL_max (xs.take k) 1000000000 fun y hy => (hb y (List.mem_of_mem_take hy)).2
    rw [List.length_take, Nat.min_eq_left hk] at h2
    exact ⟨h1, h2⟩)
  clear hx hb
  go_enter Try.func36, Try.ntmps36
  go_wp2
  go_loopw [3, 4] (fun s i wr => ∃ k : Nat, k ≤ xs.length ∧ s = .int .i64 (sumL (xs.take k)) ∧ i = .int .i64 k ∧ wr = w) (fun _ i _ => xs.length - (intOf i).toNat)
  case atStart => exact ⟨0, Nat.zero_le _, rfl, rfl, rfl⟩
  case round =>
    obtain ⟨k, hk, rfl, rfl, rfl⟩ := hrel
    by_cases hlt : k < xs.length
    · obtain ⟨b, o, e, c0⟩ := HX.out k hlt
      have c1 := lt_of_cell c0
      simp only at c1
      subst e
      have hs := HS.out k (by omega)
      have hy := HB.out xs[k] (List.getElem_mem hlt)
      have HT : Hid (sumL (xs.take (k + 1)) = sumL (xs.take k) + xs[k]) := Lib.hid (by rw [List.take_succ_eq_append_getElem hlt, sumL_snoc])
      generalize sumL (xs.take k) = s at *
      generalize xs[k] = y at *
      obtain ⟨s0, s1⟩ := hs
      obtain ⟨y0, y1⟩ := hy
      go_wp2
      go_roundw
      case rel => exact ⟨k + 1, by omega, by rw [HT.out], by go_num, by first | trivial | rfl⟩
      case measure => simp [intOf]; omega
    · obtain rfl : k = xs.length := by omega
      rw [List.take_of_length_le (Nat.le_refl _)]
      go_wp2
      go_ret
      exact ⟨rfl, Ext.refl _⟩
theorem law_most (xs : List Int) (a : Option Addr) (c : Nat) (w : World) (hx : CellsAt w .i64 a xs) (hl : xs.length ≤ 1000) :
    Calls Try.prog 35 #[.slice a xs.length c] w fun e w' => e = .returned (.int .i64 (mostL xs)) ∧ Ext w w' := by
  have HX := Lib.hid hx
  clear hx
  go_enter Try.func35, Try.ntmps35
  go_wp2
  go_loopw [3, 4] (fun s i wr => ∃ k : Nat, k ≤ xs.length ∧ s = .int .i64 (mostL (xs.take k)) ∧ i = .int .i64 k ∧ wr = w) (fun _ i _ => xs.length - (intOf i).toNat)
  case atStart => exact ⟨0, Nat.zero_le _, rfl, rfl, rfl⟩
  case round =>
    obtain ⟨k, hk, rfl, rfl, rfl⟩ := hrel
    by_cases hlt : k < xs.length
    · obtain ⟨b, o, e, c0⟩ := HX.out k hlt
      have c1 := lt_of_cell c0
      simp only at c1
      subst e
      have HT : Hid (mostL (xs.take (k + 1)) = max (mostL (xs.take k)) xs[k]) := Lib.hid (by rw [List.take_succ_eq_append_getElem hlt, mostL_snoc])
      generalize mostL (xs.take k) = s at *
      generalize xs[k] = y at *
      go_wp2
      go_roundw
      case rel => exact ⟨k + 1, by omega, congrArg (Value.int .i64) (by rw [HT.out]; split <;> omega), by go_num, by first | trivial | rfl⟩
      case measure => simp [intOf]; omega
    · obtain rfl : k = xs.length := by omega
      rw [List.take_of_length_le (Nat.le_refl _)]
      go_wp2
      go_ret
      exact ⟨rfl, Ext.refl _⟩
/-- The closure of wear. -/
theorem law_at (l : List Int) (a : Option Addr) (c kb i : Nat) (w : World) (hb : w.cell? ⟨kb, 0, none⟩ = some (.slice a l.length c)) (hx : CellsAt w .u8 a l) (hl : ∀ y ∈ l, 0 ≤ y ∧ y ≤ 255) (_hi : i ≤ 1000) (hm : l.length ≤ maxLen) :
    Calls Try.prog 60 #[.int .i64 i, .pointer (some ⟨kb, 0, none⟩)] w fun e w' => e = .returned (.int .i64 (byW l i)) ∧ Ext w w' := by
  have HX := Lib.hid hx
  have HL := Lib.hid hl
  have hbl := lt_of_cell hb
  simp only at hbl
  unfold maxLen at hm
  clear hx hl
  go_enter Try.func60, Try.ntmps60
  by_cases h0 : l.length = 0
  · have e : byW l i = 0 := by unfold byW; rw [if_pos h0]
    rw [e]
    rw [h0] at hb
    go_wp2
    go_ret
    exact ⟨rfl, Ext.refl _⟩
  · obtain ⟨q, hq⟩ : ∃ q : Nat, i % l.length = q := ⟨_, rfl⟩
    have hql : q < l.length := by rw [← hq]; exact Nat.mod_lt _ (by omega)
    have hqm : ((i : Nat) : Int).tmod (l.length : Int) = (q : Int) := by rw [← hq]; rfl
    have hz : ¬ ((l.length : Int) = 0) := by omega
    have e : byW l i = l[q] := by unfold byW; rw [if_neg h0, hq, List.getD_eq_getElem?_getD, List.getElem?_eq_getElem hql]; rfl
    rw [e]
    obtain ⟨b, o, e, c0⟩ := HX.out q hql
    have c1 := lt_of_cell c0
    simp only at c1
    subst e
    obtain ⟨y0, y1⟩ := HL.out l[q] (List.getElem_mem hql)
    generalize l[q] = y at *
    clear hq
    go_upto_region 3 with fail
    refine wp_region_later (by kernel_rfl) (by kernel_rfl) ?_
    repeat (go_big_quiet_step (fail))
    refine wpQuiet_nil ?_
    intro w4 hw4
    obtain ⟨⟨w4, hx4⟩, rfl⟩ := hw4
    go_wp2
    go_ret
    exact ⟨rfl, hx4⟩
theorem info_sl : (Try.prog.info? 24).map (fun i => (i.zero, i.size, i.bytes)) = some (some (.slice none 0 0), 1, 24) := by kernel_rfl
theorem own_type {w : World} {base size n : Nat} {e : TypeId} {v : Value} {xs : List Value} (h : w.ownsRow base e size v n xs) : ∀ k, v.ownBlock = some k → ∃ cs, w.heap[k]? = some (.cells cs e (0, 0)) := by
  intro k hk
  obtain ⟨h1, ⟨e1, h2⟩ | ⟨g, cap, cur, e1, h2, h3, h4⟩⟩ := h
  · rw [e1] at hk; cases hk
  · rw [e1] at hk; cases hk; exact ⟨cur, h3⟩
/-- Rows of different types lie in different blocks. -/
theorem own_apart {w : World} {b1 b2 z1 z2 n1 n2 : Nat} {e1 e2 : TypeId} {v1 v2 : Value} {x1 x2 : List Value} (h1 : w.ownsRow b1 e1 z1 v1 n1 x1) (h2 : w.ownsRow b2 e2 z2 v2 n2 x2) (hne : e1 ≠ e2) : ∀ k, v1.ownBlock = some k → ¬ v2.ownBlock = some k := by
  intro k hk1 hk2
  obtain ⟨c1, h1⟩ := own_type h1 k hk1
  obtain ⟨c2, h2⟩ := own_type h2 k hk2
  rw [h1] at h2
  cases h2
  exact hne rfl
def Wk2 (W : World) (base : Nat) (vals : List Value) (wks : List (List Int)) : Prop := vals.length = wks.length ∧ ∀ (i : Nat) (u : Value) (wk : List Int), vals[i]? = some u → wks[i]? = some wk → OwnI W base u wk
theorem Wk2.nil (W : World) (base : Nat) : Wk2 W base [] [] := ⟨rfl, fun i u wk h => by simp at h⟩
theorem Wk2.ext {W W' : World} {base : Nat} {vals : List Value} {wks : List (List Int)} (h : Wk2 W base vals wks) (hx : Ext W W') : Wk2 W' base vals wks := ⟨h.1, fun i u wk h1 h2 => (h.2 i u wk h1 h2).ext hx⟩
theorem Wk2.grow {W W' : World} {base b2 n : Nat} {v : Value} {xs vals : List Value} {wks : List (List Int)} (h : Wk2 W base vals wks) (ho : W.ownsRow b2 24 1 v n xs) (hx : Chg (fun k => v.ownBlock = some k) W W') : Wk2 W' base vals wks :=
  ⟨h.1, fun i u wk h1 h2 => own_chg (h.2 i u wk h1 h2) hx (own_apart (h.2 i u wk h1 h2) ho (by decide))⟩
theorem Wk2.snoc {W : World} {base : Nat} {vals : List Value} {wks : List (List Int)} {u : Value} {wk : List Int} (h : Wk2 W base vals wks) (hu : OwnI W base u wk) : Wk2 W base (vals ++ [u]) (wks ++ [wk]) := by
  refine ⟨by simp [h.1], fun i u' wk' h1 h2 => ?_⟩
  rcases Nat.lt_or_ge i vals.length with hi | hi
  · rw [List.getElem?_append_left hi] at h1
    rw [List.getElem?_append_left (by rw [← h.1]; exact hi)] at h2
    exact h.2 i u' wk' h1 h2
  · rw [List.getElem?_append_right hi] at h1
    rw [List.getElem?_append_right (by rw [← h.1]; exact hi), ← h.1] at h2
    rcases Nat.eq_zero_or_pos (i - vals.length) with e | e
    · rw [e] at h1 h2
      simp only [List.getElem?_cons_zero, Option.some.injEq] at h1 h2
      subst h1 h2
      exact hu
    · obtain ⟨j, hj⟩ : ∃ j, i - vals.length = j + 1 := ⟨i - vals.length - 1, by omega⟩
      rw [hj] at h1
      simp at h1
theorem Wk2.at {W : World} {base b2 n : Nat} {v : Value} {vals : List Value} {wks : List (List Int)} (h : Wk2 W base vals wks) (hn : n = wks.length) (ho : W.ownsRow b2 24 1 v n vals) : WksAt S0 W v wks := by
  subst hn
  obtain ⟨h1, ⟨e, h2⟩ | ⟨g, cap, cur, e, h2, h3, h4, h5, h6, h7⟩⟩ := ho
  · exact ⟨none, 0, by rw [e, h2], by omega, by decide, fun i hi => by omega⟩
  · refine ⟨_, cap, e, h4, h5, fun i hi => ?_⟩
    have hv : i < vals.length := by rw [h.1]; exact hi
    refine ⟨g, 0, cur, _, _, vals[i], rfl, id, h3, ?_, RdI.of_own (h.2 i vals[i] wks[i] (List.getElem?_eq_getElem hv) (List.getElem?_eq_getElem hi)) (fun _ _ => id)⟩
    have : (cur.toList.take (wks.length * 1))[i]? = some vals[i] := by rw [h7]; exact List.getElem?_eq_getElem hv
    rw [List.getElem?_take_of_lt (by omega)] at this
    rw [Nat.zero_add]
    simpa using this
theorem own_one {w : World} {base size n : Nat} {e : TypeId} {v : Value} {xs : List Value} (h : w.ownsRow base e size v n xs) : v.oneCell' = true := by
  obtain ⟨a, c, rfl⟩ := own_shape h
  rfl
set_option maxHeartbeats 2000000 in
theorem law_weeks (wks : List (List Int)) (a : Option Addr) (c : Nat) (w : World) (h : WksAt S0 w (.slice a wks.length c) wks) (hl : wks.length ≤ 1000) (hs : ∀ wk ∈ wks, wk.length ≤ 1000000) :
    Calls Try.prog 34 #[.slice a wks.length c] w fun e w' => ∃ u, e = .returned u ∧ WksAt S0 w' u wks ∧ Ext w w' := by
  have HW := Lib.hid h
  have HS := Lib.hid hs
  have HE := Lib.hid (show (w.alloc (.cells #[] 24)).ownsRow w.heap.size 24 1 (.slice (some ⟨w.heap.size, 0, none⟩) 0 0) 0 [] from own_empty rfl (Nat.le_refl _))
  clear h hs
  go_enter Try.func34, Try.ntmps34
  go_wp2
  go_loopw [3, 4] (fun v i wr => ∃ k : Nat, k ≤ wks.length ∧ i = .int .i64 k ∧ (∃ vals, wr.ownsRow w.heap.size 24 1 v k vals ∧ Wk2 wr w.heap.size vals (wks.take k)) ∧ Ext w wr) (fun _ i _ => wks.length - (intOf i).toNat)
  case atStart => exact ⟨0, Nat.zero_le _, rfl, ⟨[], HE.out, Wk2.nil _ _⟩, (Ext.refl w).alloc _⟩
  case round =>
    obtain ⟨k, hk, rfl, ⟨vals, ho, h2⟩, hx⟩ := hrel
    obtain ⟨va, vc, rfl⟩ := own_shape ho
    have HO := Lib.hid ho
    have H2 := Lib.hid h2
    have HX := Lib.hid hx
    clear ho h2 hx
    by_cases hlt : k < wks.length
    · have hwr := HW.out.keep (Kc.of_ext HX.out)
      obtain ⟨b, o, ua, uc, e, hbl, hcu, hru⟩ := WksAt.get hwr k hlt
      subst e
      have hwl := HS.out wks[k] (List.getElem_mem hlt)
      obtain ⟨_, _, e, hca, -, -, hnn⟩ := hru.cells
      cases e
      have HT := Lib.hid (List.take_succ_eq_append_getElem hlt)
      generalize wks[k] = wk at *
      have HIN := Lib.hid (law_ints wk ua uc wr hca hnn hwl)
      clear hwr hru hca hnn
      go_wp2_with fail
      refine HIN.out.mono ?_
      rintro e w1 ⟨v1, rfl, hO1, hx1⟩
      obtain ⟨d1, dc, rfl⟩ := own_shape hO1
      have HO1 := Lib.hid (own_mono (base' := w.heap.size) hO1 HX.out.size)
      have HO' := Lib.hid (own_chg HO.out (hx1.chg fun _ => False) fun _ _ => id)
      have H2' := Lib.hid (H2.out.ext hx1)
      have HX1 := Lib.hid (HX.out.trans hx1)
      have hkl : k ≤ 1000 := by omega
      have hbw : w.heap.size ≤ w1.heap.size := HX1.out.size
      clear hO1 hx1 hcu hbl
      obtain ⟨w2, hw2⟩ : ∃ y, y = w1.alloc (.cells #[.slice d1 wk.length dc] 24) := ⟨_, rfl⟩
      have hx12 : Ext w1 w2 := by rw [hw2]; exact (Ext.refl w1).alloc _
      have hbk : Blk w2 w1.heap.size #[.slice d1 wk.length dc] := by rw [hw2]; exact Blk.new _ _ _
      have HOa := Lib.hid (own_chg HO'.out (hx12.chg fun _ => False) fun _ _ => id)
      have HOb := Lib.hid (own_chg HO1.out (hx12.chg fun _ => False) fun _ _ => id)
      have H2a := Lib.hid (H2'.out.ext hx12)
      have HX2 := Lib.hid (HX1.out.trans hx12)
      have HBK := Lib.hid hbk
      have hb2 : w.heap.size ≤ w2.heap.size := HX2.out.size
      have HW2 := Lib.hid hw2
      clear hx12 hbk hw2
      go_wp2_with (at_builtin; rw [← HW2.out]; refine wp_append_from rfl _ _ 70 24 (.slice none 0 0) 1 24 rfl info_sl (by kernel_rfl) rfl (by decide) w.heap.size _ k vals rfl HOa.out (some ⟨w1.heap.size, 0, none⟩) 1 1 [.slice d1 wk.length dc] rfl (fun h => by cases h) rfl (fun ad e j u hu => by cases e; rw [addr_add]; match j, hu with | 0, hu => (simp at hu; subst hu; exact HBK.out.cell 0 rfl)) (fun u hu => by simp at hu; subst hu; rfl) (by omega) (by decide) hb2 ?_)
      intro v' w5 ho5 hC5 hn5
      obtain ⟨av, ac, rfl⟩ := own_shape ho5
      have HV5 := Lib.hid ((H2a.out.grow HOa.out hC5).snoc (own_chg HOb.out hC5 (own_apart HOb.out HOa.out (by decide))))
      have HO5 := Lib.hid ho5
      have HX5 := Lib.hid (Chg.to_ext HX2.out hC5 (fun j e => (own_lt HOa.out j e).1))
      rw [← HT.out] at HV5
      clear ho5 hC5 hn5
      go_wp2
      go_roundw
      case rel => exact ⟨k + 1, by omega, by go_num, ⟨_, HO5.out, HV5.out⟩, HX5.out⟩
      case measure => simp [intOf]; omega
    · obtain rfl : k = wks.length := by omega
      have HF := Lib.hid (H2.out.at (by rw [List.length_take, Nat.min_self]) HO.out)
      rw [List.take_of_length_le (Nat.le_refl _)] at HF
      go_wp2
      go_ret
      exact ⟨_, rfl, HF.out, HX.out⟩
theorem wornW_succ (l : List Int) (k : Nat) : wornW l (k + 1) = wornW l k ++ [3 * byW l k] := by unfold wornW; rw [List.range_succ, List.map_append]; rfl
theorem weekW_succ (l : List Int) (k j : Nat) : weekW l (k + 1) j = weekW l k j ++ [byW l (k + 5 * j + 1)] := by unfold weekW; rw [List.range_succ, List.map_append]; rfl
def weeksW (l : List Int) (n many : Nat) : List (List Int) := (List.range many).map (weekW l n)
theorem weeksW_succ (l : List Int) (n k : Nat) : weeksW l n (k + 1) = weeksW l n k ++ [weekW l n k] := by unfold weeksW; rw [List.range_succ, List.map_append]; rfl
set_option maxHeartbeats 2000000 in
theorem law_wear (l : List Int) (a : Option Addr) (c n many : Nat) (w : World) (hx : CellsAt w .u8 a l) (hl : ∀ y ∈ l, 0 ≤ y ∧ y ≤ 255) (hm : l.length ≤ maxLen) (hn : n ≤ 20) (hk : many ≤ 4) :
    Calls Try.prog 29 #[.slice a l.length c, .int .i64 n, .int .i64 many] w fun e w' => ∃ u v, e = .returned (.tuple #[u, v]) ∧ RdI S0 w' u (wornW l n) ∧ WksAt S0 w' v (weeksW l n many) ∧ Ext w w' := by
  have HAT := Lib.hid (fun W (i : Nat) (hb : Blk W w.heap.size #[.slice a l.length c]) (hX : Ext w W) (hi : i ≤ 1000) => law_at l a c w.heap.size i W (hb.cell 0 rfl) (hx.ext hX) hl hi hm)
  have HS := Lib.hid (byW_small hl)
  clear hx hl hm
  go_enter Try.func29, Try.ntmps29
  go_upto_block 0 with fail
  obtain ⟨w1, hw1⟩ : ∃ y, y = w.alloc (.cells #[.slice a l.length c] 43) := ⟨_, rfl⟩
  rw [← hw1]
  have hs1 : w1.heap.size = w.heap.size + 1 := by rw [hw1]; simp
  have HBY : Hid (Blk w1 w.heap.size #[.slice a l.length c]) := Lib.hid (by rw [hw1]; exact Blk.new _ _ _)
  have HX1 : Hid (Ext w w1) := Lib.hid (by rw [hw1]; exact (Ext.refl w).alloc _)
  have HO0 : Hid (OwnI ((w1.alloc (.cells #[] 3)).alloc (.cells #[] 24)) (w.heap.size + 1) (.slice (some ⟨w.heap.size + 1, 0, none⟩) 0 0) []) := Lib.hid (by
    rw [← hs1]
    exact own_chg (own_empty rfl (Nat.le_refl _)) (((Ext.refl _).alloc _).chg fun _ => False) fun _ _ => id)
  have HR0 : Hid (((w1.alloc (.cells #[] 3)).alloc (.cells #[] 24)).ownsRow (w.heap.size + 1) 24 1 (.slice (some ⟨w.heap.size + 1 + 1, 0, none⟩) 0 0) 0 []) := Lib.hid (own_empty (by simp [hs1]) (by omega))
  obtain ⟨w2, hw2⟩ : ∃ y, y = (w1.alloc (.cells #[] 3)).alloc (.cells #[] 24) := ⟨_, rfl⟩
  rw [← hw2] at HO0 HR0 ⊢
  have HX2 : Hid (Ext w1 w2) := Lib.hid (by rw [hw2]; exact ((Ext.refl w1).alloc _).alloc _)
  have HS1 := Lib.hid hs1
  clear hw1 hw2 hs1
  go_wp2
  go_loopw [9, 11] (fun v i wr => ∃ k : Nat, k ≤ n ∧ i = .int .i64 k ∧ OwnI wr (w.heap.size + 1) v (wornW l k) ∧ wr.ownsRow (w.heap.size + 1) 24 1 (.slice (some ⟨w.heap.size + 1 + 1, 0, none⟩) 0 0) 0 [] ∧ Ext w1 wr) (fun _ i _ => n - (intOf i).toNat)
  case atStart => exact ⟨0, Nat.zero_le _, rfl, HO0.out, HR0.out, HX2.out⟩
  case round =>
    obtain ⟨k, hkk, rfl, ho, hr, hx⟩ := hrel
    have HR := Lib.hid hr
    have HX := Lib.hid hx
    by_cases hlt : k < n
    · obtain ⟨va, vc, rfl⟩ := own_shape ho
      have HO := Lib.hid ho
      have HBYr := Lib.hid (HBY.out.ext hx)
      have HLN := Lib.hid (show (wornW l k).length = k by unfold wornW; simp)
      have hb := HS.out k
      have HSU := Lib.hid (wornW_succ l k)
      have HAT1 := Lib.hid (HAT.out wr k HBYr.out (HX1.out.trans hx) (by omega))
      generalize byW l k = z at *
      obtain ⟨b0, b1⟩ := hb
      clear ho hr hx
      go_wp2_with fail
      refine HAT1.out.mono ?_
      rintro e w3 ⟨rfl, hx3⟩
      have HO3 := Lib.hid (HO.out.ext hx3)
      have HR3 := Lib.hid (own_chg HR.out (hx3.chg fun _ => False) fun _ _ => id)
      have HX3 := Lib.hid (HX.out.trans hx3)
      clear hx3
      go_wp2_with (at_builtin; refine wp_append_i rfl _ _ rfl (w.heap.size + 1) _ (wornW l k) rfl (HO3.out.ext ((Ext.refl w3).alloc _)) ⟨w3.heap.size, 0, none⟩ 1 (3 * z) rfl (Blk.cell (Blk.new _ _ _) 0 rfl) (by rw [HLN.out]; omega) (by have := HX3.out.size; have := HS1.out; simp; omega) ?_)
      intro v' w4 ho4 hg4
      obtain ⟨av, ac, rfl⟩ := own_shape ho4
      have HO4 := Lib.hid ho4
      have hoA := HO3.out.ext ((Ext.refl w3).alloc (.cells #[.int .i64 (3 * z)] 3))
      have HR4 := Lib.hid (own_chg (own_chg HR3.out (((Ext.refl w3).alloc (.cells #[.int .i64 (3 * z)] 3)).chg fun _ => False) fun _ _ => id) (grown_chg hg4) (own_apart (own_chg HR3.out (((Ext.refl w3).alloc (.cells #[.int .i64 (3 * z)] 3)).chg fun _ => False) fun _ _ => id) hoA (by decide)))
      have HX4 := Lib.hid (Chg.to_ext (HX3.out.alloc (.cells #[.int .i64 (3 * z)] 3)) (grown_chg hg4) (fun j e => by rw [HS1.out]; exact (own_lt hoA j e).1))
      clear ho4 hg4 hoA
      go_wp2
      go_roundw
      case rel => exact ⟨k + 1, by omega, by go_num, by rw [HSU.out]; exact HO4.out, HR4.out, HX4.out⟩
      case measure => simp [intOf]; omega
    · obtain rfl : k = n := by omega
      obtain ⟨va, vc, rfl⟩ := own_shape ho
      have HO := Lib.hid ho
      obtain ⟨w5, hw5⟩ : ∃ x, wr = x := ⟨_, rfl⟩
      rw [hw5] at HO HR HX ⊢
      have HKL := Lib.hid (show (wornW l k).length = k by unfold wornW; simp)
      clear ho hr hx hw5
      go_wp2
      go_loopw [10, 12] (fun v i wr => ∃ j : Nat, j ≤ many ∧ i = .int .i64 j ∧ (∃ vals, wr.ownsRow (w.heap.size + 1) 24 1 v j vals ∧ Wk2 wr (w.heap.size + 1) vals (weeksW l k j)) ∧ OwnI wr (w.heap.size + 1) (.slice va (wornW l k).length vc) (wornW l k) ∧ Ext w1 wr) (fun _ i _ => many - (intOf i).toNat)
      case atStart => exact ⟨0, Nat.zero_le _, rfl, ⟨[], HR.out, Wk2.nil _ _⟩, HO.out, HX.out⟩
      case round =>
        obtain ⟨j, hj, rfl, ⟨vals, hr, h2⟩, ho, hx⟩ := hrel
        obtain ⟨ra, rc, rfl⟩ := own_shape hr
        have HRj := Lib.hid hr
        have H2j := Lib.hid h2
        have HOj := Lib.hid ho
        have HXj := Lib.hid hx
        clear hr h2 ho hx
        by_cases hjl : j < many
        · obtain ⟨w6, hw6⟩ : ∃ x, wr = x := ⟨_, rfl⟩
          rw [hw6] at HRj H2j HOj HXj ⊢
          clear hw6
          have HE0 : Hid (OwnI (w6.alloc (.cells #[] 3)) w6.heap.size (.slice (some ⟨w6.heap.size, 0, none⟩) 0 0) []) := Lib.hid (own_empty rfl (Nat.le_refl _))
          have HB6 := Lib.hid HXj.out.size
          go_wp2
          go_loopw [13, 14] (fun v i wr => ∃ q : Nat, q ≤ k ∧ i = .int .i64 q ∧ OwnI wr w6.heap.size v (weekW l q j) ∧ Ext w6 wr) (fun _ i _ => k - (intOf i).toNat)
          case atStart => exact ⟨0, Nat.zero_le _, rfl, HE0.out, (Ext.refl w6).alloc _⟩
          case round =>
            obtain ⟨q, hq, rfl, hw, hx⟩ := hrel
            obtain ⟨ta, tc, rfl⟩ := own_shape hw
            have HW := Lib.hid hw
            have HX6 := Lib.hid hx
            by_cases hql : q < k
            · have hb := HS.out (q + 5 * j + 1)
              have HSU := Lib.hid (weekW_succ l q j)
              have HLN := Lib.hid (show (weekW l q j).length = q by unfold weekW; simp)
              have hAT1 := HAT.out wr (q + 5 * j + 1) (HBY.out.ext (HXj.out.trans hx)) (HX1.out.trans (HXj.out.trans hx)) (by omega)
              have e0 : ((q + 5 * j + 1 : Nat) : Int) = (q : Int) + 5 * (j : Int) + 1 := by omega
              rw [e0] at hAT1
              have HAT1 := Lib.hid hAT1
              generalize byW l (q + 5 * j + 1) = z at *
              obtain ⟨b0, b1⟩ := hb
              clear hw hx hAT1 e0
              go_wp2_with fail
              refine HAT1.out.mono ?_
              rintro e w3 ⟨rfl, hx3⟩
              have HO3 := Lib.hid (HW.out.ext hx3)
              have HX3 := Lib.hid (HX6.out.trans hx3)
              clear hx3
              go_wp2_with (at_builtin; refine wp_append_i rfl _ _ rfl w6.heap.size _ (weekW l q j) rfl (HO3.out.ext ((Ext.refl w3).alloc _)) ⟨w3.heap.size, 0, none⟩ 1 z rfl (Blk.cell (Blk.new _ _ _) 0 rfl) (by rw [HLN.out]; omega) (by have := HX3.out.size; simp; omega) ?_)
              intro v' w4 ho4 hg4
              obtain ⟨av, ac, rfl⟩ := own_shape ho4
              have HO4 := Lib.hid ho4
              have hoA := HO3.out.ext ((Ext.refl w3).alloc (.cells #[.int .i64 z] 3))
              have HX4 := Lib.hid (Chg.to_ext (HX3.out.alloc (.cells #[.int .i64 z] 3)) (grown_chg hg4) (fun j e => (own_lt hoA j e).1))
              clear ho4 hg4 hoA
              go_wp2
              go_roundw
              case rel => exact ⟨q + 1, by omega, by go_num, by rw [HSU.out]; exact HO4.out, HX4.out⟩
              case measure => simp [intOf]; omega
            · obtain rfl : q = k := by omega
              obtain ⟨w7, hw7⟩ : ∃ x, wr = x := ⟨_, rfl⟩
              rw [hw7] at HW HX6 ⊢
              have HWU := Lib.hid (weeksW_succ l q j)
              have hbw : w.heap.size + 1 ≤ w7.heap.size := by have := HX6.out.size; have := HB6.out; have := HS1.out; omega
              have HR7 := Lib.hid (own_chg HRj.out (HX6.out.chg fun _ => False) fun _ _ => id)
              have HO7 := Lib.hid (HOj.out.ext HX6.out)
              have H27 := Lib.hid (H2j.out.ext HX6.out)
              have HW7 := Lib.hid (own_mono (base' := w.heap.size + 1) HW.out (by have := HB6.out; have := HS1.out; omega))
              have HX7 := Lib.hid (HXj.out.trans HX6.out)
              clear hw hx hw7
              obtain ⟨w8, hw8⟩ : ∃ y, y = w7.alloc (.cells #[.slice ta (weekW l q j).length tc] 24) := ⟨_, rfl⟩
              have hx78 : Ext w7 w8 := by rw [hw8]; exact (Ext.refl w7).alloc _
              have HBK : Hid (Blk w8 w7.heap.size #[.slice ta (weekW l q j).length tc]) := Lib.hid (by rw [hw8]; exact Blk.new _ _ _)
              have HR8 := Lib.hid (own_chg HR7.out (hx78.chg fun _ => False) fun _ _ => id)
              have HO8 := Lib.hid (HO7.out.ext hx78)
              have H28 := Lib.hid (H27.out.ext hx78)
              have HW8 := Lib.hid (own_chg HW7.out (hx78.chg fun _ => False) fun _ _ => id)
              have HX8 := Lib.hid (HX7.out.trans hx78)
              have hb8 : w.heap.size + 1 ≤ w8.heap.size := Nat.le_trans hbw hx78.size
              have HWW := Lib.hid hw8
              clear hx78 hw8
              go_wp2_with (at_builtin; rw [← HWW.out]; refine wp_append_from rfl _ _ 70 24 (.slice none 0 0) 1 24 rfl info_sl (by kernel_rfl) rfl (by decide) (w.heap.size + 1) _ j vals rfl HR8.out (some ⟨w7.heap.size, 0, none⟩) 1 1 [.slice ta (weekW l q j).length tc] rfl (fun h => by cases h) rfl (fun ad e j u hu => by cases e; rw [addr_add]; match j, hu with | 0, hu => (simp at hu; subst hu; exact HBK.out.cell 0 rfl)) (fun u hu => by simp at hu; subst hu; rfl) (by omega) (by decide) hb8 ?_)
              intro v' w9 ho9 hC9 hn9
              obtain ⟨av, ac, rfl⟩ := own_shape ho9
              have HV9 := Lib.hid ((H28.out.grow HR8.out hC9).snoc (own_chg HW8.out hC9 (own_apart HW8.out HR8.out (by decide))))
              have HR9 := Lib.hid ho9
              have HO9 := Lib.hid (own_chg HO8.out hC9 (own_apart HO8.out HR8.out (by decide)))
              have HX9 := Lib.hid (Chg.to_ext HX8.out hC9 (fun j e => by have := (own_lt HR8.out j e).1; have := HS1.out; omega))
              rw [← HWU.out] at HV9
              clear ho9 hC9 hn9
              go_wp2
              go_roundw
              case rel => exact ⟨j + 1, by omega, by go_num, ⟨_, HR9.out, HV9.out⟩, HO9.out, HX9.out⟩
              case measure => simp [intOf]; omega
        · obtain rfl : j = many := by omega
          have HF := Lib.hid (H2j.out.at (by unfold weeksW; simp) HRj.out)
          have HG := Lib.hid (RdI.of_own (S := S0) HOj.out (fun _ _ => id))
          have HXe := Lib.hid (HX1.out.trans HXj.out)
          go_wp2
          refine bodyPost_ret (v := .tuple #[.slice va (wornW l k).length vc, .slice ra j rc]) (by simp [results, Try.results29, go_sem]) rfl ⟨_, _, rfl, HG.out, HF.out, HXe.out⟩
end Go.Proofs.Ytlkbbcfbnbnagaa
