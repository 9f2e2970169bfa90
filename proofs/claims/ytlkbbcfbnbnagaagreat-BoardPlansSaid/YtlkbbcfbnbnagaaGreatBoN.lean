/-
  Package board: Clone, Clip; isTurn, turned, after.
-/
import Derived.Test.YtlkbbcfbnbnagaaGreatBoM
import Derived.StillTailTactics
namespace Go.Proofs.YtlkbbcfbnbnagaaGreat
open Go.RowKit Go.BigFrame
attribute [local go_sem] Later.cell Later.frozen
set_option maxRecDepth 100000 in
theorem eql_none (n' c' : Nat) (W : World) : (binOp .eql 24 (.slice none n' c') (.slice none 0 0)).run Tryz.prog W = .ok (.bool true) W := rfl
set_option maxRecDepth 100000 in
theorem eql_some (ad : Addr) (n' c' : Nat) (W : World) : (binOp .eql 24 (.slice (some ad) n' c') (.slice none 0 0)).run Tryz.prog W = .ok (.bool false) W := rfl
set_option maxRecDepth 100000 in
set_option maxHeartbeats 1000000 in
theorem clone_i (xs : List Int) (a : Option Addr) (c : Nat) (w : World) (hx : CellsAt w .i64 a xs) (hnil : a = none → xs.length = 0 ∧ c = 0) (hl : xs.length ≤ 1000000) :
    Calls Tryz.prog 61 #[.slice a xs.length c] w fun e w' => ∃ v, e = .returned v ∧ OwnI w' w.heap.size v xs ∧ Ext w w' := by
  have HX := Lib.hid hx
  cases a with
  | none =>
    obtain ⟨h0, rfl⟩ := hnil rfl
    obtain rfl := List.length_eq_zero_iff.1 h0
    clear hnil hx HX hl
    simp only [List.length_nil]
    have he := eql_none 0 0
    go_enter Tryz.func61, Tryz.ntmps61
    go_wp2
    go_ret
    exact ⟨_, rfl, OwnI.nil _ _, Ext.refl w⟩
  | some ad =>
    have hE : OwnI (w.alloc (.cells #[] 3)) w.heap.size (.slice (some ⟨w.heap.size, 0, none⟩) 0 0) [] := own_empty rfl (Nat.le_refl _)
    have HE := Lib.hid hE
    have HL := Lib.hid hl
    obtain ⟨m, hm⟩ : ∃ m, xs.length = m := ⟨_, rfl⟩
    have HM := Lib.hid hm
    rw [hm]
    clear hx hE hnil hl hm
    have he := eql_some ad m c
    go_enter Tryz.func61, Tryz.ntmps61
    go_wp2_with (at_builtin; refine wp_append_vals rfl _ _ 24 3 (.int .i64 0) 1 8 rfl info_int (by kernel_rfl) rfl (by decide) w.heap.size _ 0 [] rfl HE.out (some ad) m c (xs.map (Value.int .i64)) rfl (fun h => by cases h) (by simp [HM.out]) (CellsAt.vals (HX.out.ext ((Ext.refl w).alloc _))) (ints_one _ _) (by have := HL.out; have := HM.out; omega) (by omega) (by simp) ?_)
    intro v' w5 hO5 hg5
    have hE5 := Chg.to_ext ((Ext.refl w).alloc (.cells #[] 3)) (grown_chg hg5) (fun i e => (own_lt HE.out i e).1)
    have hO6 : OwnI w5 w.heap.size v' xs := by
      show w5.ownsRow _ _ _ _ xs.length (xs.map (Value.int .i64))
      rw [HM.out]; simpa using hO5
    have HO5 := Lib.hid hO6
    clear hO5 hg5 hO6
    go_wp2
    go_ret
    exact ⟨_, rfl, HO5.out, hE5⟩
theorem brd_isTurn (v : BrdV) (b : Brd) (k : Int) (w : World) (hs : b.nums.length ≤ 1000000) :
    Calls Tryz.prog 38 #[.agg (v.cells b), .int .i64 k] w fun e w' => e = .returned (.bool (ins 0 (b.nums.length - 1) [k])) ∧ Ext w w' := by
  obtain ⟨eye, bull, rings, lines, nums, wire⟩ := b
  obtain ⟨ra, la, na, rc, lc, nc⟩ := v
  unfold BrdV.cells
  simp only at hs ⊢
  go_enter Tryz.func38, Tryz.ntmps38
  go_wp2_with fail
  refine (brd_within_1 _ _ k _ _ (by simp)).mono ?_
  rintro e w1 ⟨rfl, hx1⟩
  go_wp2
  go_ret
  exact ⟨rfl, ((Ext.refl w).alloc _).trans hx1⟩
def turnL (xs : List Int) (k : Nat) : List Int := xs.drop (xs.length - k) ++ xs.take (xs.length - k)
theorem CellsAt.sub {w : World} {b o : Nat} {xs : List Int} (h : CellsAt w .i64 (some ⟨b, o, none⟩) xs) (i n : Nat) : CellsAt w .i64 (some ⟨b, o + i, none⟩) ((xs.drop i).take n) := fun j hj => by
  have hj' : j < (xs.drop i).length := Nat.lt_of_lt_of_le hj (by simp; omega)
  simp at hj'
  obtain ⟨b', o', e, hc⟩ := h (i + j) (by omega)
  cases e
  refine ⟨b, o + i, rfl, ?_⟩
  rw [List.getElem_take, List.getElem_drop, Nat.add_assoc]
  exact hc
set_option maxRecDepth 100000 in
set_option maxHeartbeats 1000000 in
theorem brd_turned (xs : List Int) (b o c k : Nat) (w : World) (hx : CellsAt w .i64 (some ⟨b, o, none⟩) xs) (hc : xs.length ≤ c) (hk : k < xs.length) (hl : xs.length ≤ 1000) (_hcm : c ≤ maxLen) :
    Calls Tryz.prog 39 #[.slice (some ⟨b, o, none⟩) xs.length c, .int .i64 k] w fun e w' => ∃ v, e = .returned v ∧ OwnI w' w.heap.size v (turnL xs k) ∧ Ext w w' := by
  have HX := Lib.hid hx
  unfold maxLen at _hcm
  obtain ⟨m, hm⟩ : ∃ m, xs.length = m := ⟨_, rfl⟩
  rw [hm] at hc hk hl ⊢
  clear hx
  obtain ⟨j, rfl⟩ : ∃ j, m = j + k := ⟨m - k, by omega⟩
  have hj : ((j + k : Nat) : Int) - (k : Int) = (j : Int) := by omega
  obtain ⟨xp, hxp⟩ : ∃ xp : Addr, (if c = j then (⟨b, o, none⟩ : Addr) else ⟨b, o + j, none⟩) = xp := ⟨_, rfl⟩
  have hs1 : ∀ W, (Instr.slice 24 (.slice (some ⟨b, o, none⟩) (j + k) c) (some (.int .i64 j)) none none).run Tryz.prog W = .ok (.slice (some xp) k (c - j)) W := by
    intro W
    have e1 : ((j : Int) ≤ (j : Int) + k) := by omega
    simp [Instr.slice, go_sem]
    rw [if_pos e1, ← hxp]
    split <;> rfl
  have hs2 : ∀ W, (Instr.slice 24 (.slice (some ⟨b, o, none⟩) (j + k) c) none (some (.int .i64 j)) none).run Tryz.prog W = .ok (.slice (some ⟨b, o, none⟩) j c) W := by
    intro W
    simp [Instr.slice, go_sem]
    intro e1
    omega
  have hX1 : CellsAt w .i64 (some xp) (xs.drop j) := by
    have h0 := HX.out.sub j k
    have e0 : (xs.drop j).take k = xs.drop j := List.take_of_length_le (by simp; omega)
    rw [e0] at h0
    rw [← hxp]
    split
    · have : xs.drop j = [] := List.drop_eq_nil_of_le (by omega)
      rw [this]
      exact CellsAt.nil _ _ _
    · exact h0
  have hX2 : CellsAt w .i64 (some ⟨b, o, none⟩) (xs.take j) := by
    have h0 := HX.out.sub 0 j
    rwa [List.drop_zero, Nat.add_zero] at h0
  have HX1 := Lib.hid hX1
  have HX2 := Lib.hid hX2
  have HLN := Lib.hid (show turnL xs k = xs.drop j ++ xs.take j by unfold turnL; rw [hm, Nat.add_sub_cancel])
  have HL1 := Lib.hid (show (xs.drop j).length = k by simp [hm])
  have HL2 := Lib.hid (show (xs.take j).length = j by simp [hm])
  clear hX1 hX2 hxp hm HX
  go_enter Tryz.func39, Tryz.ntmps39
  go_upto_region 2 with fail
  go_still_tail 6, (by kernel_rfl)
  change wpList _ _ _ _ _ w.drew
  go_wp2_with fail
  have hcc := concat2 (xs.drop j) (xs.take j) w.heap.size xp ⟨b, o, none⟩ (c - j) c (w.drew.alloc (.cells #[.slice (some xp) k (c - j), .slice (some ⟨b, o, none⟩) j c] 24)) (by rw [HL1.out, HL2.out]; exact Blk.new w.drew _ _) (HX1.out.ext ((Ext.refl w).drew.alloc _)) (HX2.out.ext ((Ext.refl w).drew.alloc _)) (by rw [HL1.out, HL2.out]; omega) (by rw [HL1.out, HL2.out]; omega)
  refine hcc.mono ?_
  rintro e w2 ⟨v, rfl, hO, hx2⟩
  have hO2 : OwnI w2 w.heap.size v (turnL xs k) := by rw [HLN.out]; exact own_mono hO (by simp)
  have HO2 := Lib.hid hO2
  have HX2' := Lib.hid (((Ext.refl w).drew.alloc _).trans hx2)
  clear hO hO2 hx2 hcc
  go_wp2
  go_ret
  exact ⟨_, rfl, HO2.out, HX2'.out⟩
def addL (xs ys : List Int) : List Int := List.zipWith (· + ·) xs ys
def addTo (xs ys : List Int) (k : Nat) : List Int := addL (xs.take k) (ys.take k) ++ xs.drop k
theorem addTo_get (xs ys : List Int) (k : Nat) (h1 : k < xs.length) (h2 : k < ys.length) : (addTo xs ys k)[k]? = some xs[k] := by
  unfold addTo addL
  rw [List.getElem?_append_right (by simp; omega)]
  simp [List.getElem?_drop]
  have e2 : k + (k - min k (min xs.length (min k ys.length))) = k := by omega
  simp only [e2]
  exact List.getElem?_eq_getElem h1
theorem addTo_set (xs ys : List Int) (k : Nat) (h1 : k < xs.length) (h2 : k < ys.length) : (addTo xs ys k).set k (xs[k] + ys[k]) = addTo xs ys (k + 1) := by
  unfold addTo addL
  have hl : (List.zipWith (· + ·) (xs.take k) (ys.take k)).length = k := by simp; omega
  rw [List.set_append_right _ _ (by omega), hl, Nat.sub_self, List.drop_eq_getElem_cons h1, List.set_cons_zero, List.take_succ_eq_append_getElem h1, List.take_succ_eq_append_getElem h2,
    List.zipWith_append (by simp; omega)]
  simp
theorem addTo_len (xs ys : List Int) (k : Nat) (h : xs.length = ys.length) : (addTo xs ys k).length = xs.length := by
  unfold addTo addL; simp; omega
def afterL (worn week : List Int) (k : Nat) : List Int := addL worn (turnL week k)
theorem turnL_len (xs : List Int) (k : Nat) (h : k ≤ xs.length) : (turnL xs k).length = xs.length := by
  unfold turnL
  rw [List.length_append, List.length_drop, List.length_take]
  omega
theorem turnL_mem (xs : List Int) (k : Nat) : ∀ x ∈ turnL xs k, x ∈ xs := by
  intro x hx
  unfold turnL at hx
  rcases List.mem_append.1 hx with h | h
  · exact List.mem_of_mem_drop h
  · exact List.mem_of_mem_take h
theorem own_head {w : World} {base : Nat} {v : Value} {xs : List Int} (h : OwnI w base v xs) (h0 : 0 < xs.length) : ∃ g c, v = .slice (some ⟨g, 0, none⟩) xs.length c ∧ base ≤ g ∧ g < w.heap.size ∧ xs.length ≤ c ∧ c ≤ maxLen := by
  obtain ⟨h1, ⟨e, h2⟩ | ⟨g, cap, cur, e, h2, h3, h4, h5, h6⟩⟩ := h
  · omega
  · exact ⟨g, cap, e, h2, (Array.getElem?_eq_some_iff.1 h3).1, h4, h5⟩
theorem own_at {w : World} {base g n c : Nat} {xs : List Int} (h : OwnI w base (.slice (some ⟨g, 0, none⟩) n c) xs) (k : Nat) (x : Int) (hk : xs[k]? = some x) : w.cell? ⟨g, k, none⟩ = some (.int .i64 x) ∧ w.frozen? ⟨g, k, none⟩ = false ∧ g < w.heap.size := by
  have hl := (World.ownsRow.lt h g rfl).2
  have hc := World.ownsRow.cells (w := w) (g := g) h rfl k (.int .i64 x) (by simp [hk])
  rw [addr_add, Nat.zero_add] at hc
  refine ⟨hc, ?_, hl⟩
  obtain ⟨h1, ⟨e, h2⟩ | ⟨g', cap, cur, e, h2, h3, h4, h5, h6⟩⟩ := h
  · cases e
  · cases e
    exact Blk.frozen ⟨_, h3⟩ k
set_option maxRecDepth 100000 in
set_option maxHeartbeats 2000000 in
theorem brd_after (xs ys : List Int) (xb xo xc yb yo yc k : Nat) (w : World) (hx : CellsAt w .i64 (some ⟨xb, xo, none⟩) xs) (hy : CellsAt w .i64 (some ⟨yb, yo, none⟩) ys) (hl : xs.length = ys.length) (hyc : ys.length ≤ yc) (hym : yc ≤ maxLen)
    (hk : k < ys.length) (hn : ys.length ≤ 1000) (hbx : ∀ x ∈ xs, 0 ≤ x ∧ x ≤ 1000000000000) (hby : ∀ y ∈ ys, 0 ≤ y ∧ y ≤ 1000000000000) :
    Calls Tryz.prog 40 #[.slice (some ⟨xb, xo, none⟩) xs.length xc, .slice (some ⟨yb, yo, none⟩) ys.length yc, .int .i64 k] w fun e w' => ∃ v, e = .returned v ∧ OwnI w' w.heap.size v (afterL xs ys k) ∧ Ext w w' := by
  have HCl := Lib.hid (clone_i xs (some ⟨xb, xo, none⟩) xc w hx (fun h => by cases h) (by omega))
  have HTu := Lib.hid (fun W (hx : Ext w W) => brd_turned ys yb yo yc k W (hy.ext hx) hyc hk hn hym)
  have HBX := Lib.hid hbx
  have HBY := Lib.hid (fun y (hy : y ∈ turnL ys k) => hby y (turnL_mem ys k y hy))
  have HTL := Lib.hid (turnL_len ys k (by omega))
  unfold afterL
  generalize turnL ys k = ts at *
  obtain ⟨m, hm⟩ : ∃ m, ys.length = m := ⟨_, rfl⟩
  rw [hm] at hl hk hn HTu HTL ⊢
  rw [hl] at HCl ⊢
  have HXL := Lib.hid hl
  clear hx hy hyc hym hbx hby hm hl
  go_enter Tryz.func40, Tryz.ntmps40
  go_wp2_with fail
  refine HCl.out.mono ?_
  rintro e w1 ⟨v1, rfl, hO1, hx1⟩
  have HO1 := Lib.hid hO1
  have HX1 := Lib.hid hx1
  clear hO1 hx1
  go_wp2_with fail
  refine (HTu.out _ HX1.out).mono ?_
  rintro e w2 ⟨v2, rfl, hO2, hx2⟩
  obtain ⟨g2, c2, rfl, hg2, -⟩ := own_head hO2 (by rw [HTL.out]; omega)
  obtain ⟨g1, c1, rfl, hg1, hg1', -⟩ := own_head HO1.out (by rw [HXL.out]; omega)
  rw [HTL.out] at hO2 ⊢
  rw [HXL.out] at HO1 ⊢
  have hO1 := HO1.out.ext hx2
  have HX2 := Lib.hid (HX1.out.trans hx2)
  have HO2 := Lib.hid hO2
  have HOa := Lib.hid hO1
  have hne : g1 ≠ g2 := by omega
  have HNE := Lib.hid hne
  have HG1 := Lib.hid hg1
  clear hO2 hx2 hO1 HO1 HX1 hg2 hg1' hne hg1
  go_wp2
  go_loopw [8, 9, 16] (fun _ _ i wr => ∃ k : Nat, k ≤ m ∧ i = .int .i64 k ∧ OwnI wr w.heap.size (.slice (some ⟨g1, 0, none⟩) m c1) (addTo xs ts k) ∧ Chg (· = g1) w2 wr) (fun _ _ i _ => m - (intOf i).toNat)
  case atStart => exact ⟨0, Nat.zero_le _, rfl, by simpa [addTo, addL] using HOa.out, Chg.refl _ _⟩
  case round =>
    obtain ⟨k, hk, rfl, hO, hC⟩ := hrel
    have HO := Lib.hid hO
    have HC := Lib.hid hC
    clear hO hC
    by_cases hlt : k < m
    · have hkx : k < xs.length := by rw [HXL.out]; exact hlt
      have hkt : k < ts.length := by rw [HTL.out]; exact hlt
      obtain ⟨r0, r1, r2⟩ := own_at HO.out k xs[k] (addTo_get xs ts k hkx hkt)
      obtain ⟨t0, -, -⟩ := own_at HO2.out k ts[k] (List.getElem?_eq_getElem hkt)
      replace t0 := HC.out.cell t0 (by exact fun h => HNE.out h.symm)
      have t2 := lt_of_cell t0
      simp only at t2
      obtain ⟨b0, b1⟩ := HBX.out xs[k] (List.getElem_mem _)
      obtain ⟨b2, b3⟩ := HBY.out ts[k] (List.getElem_mem _)
      have hS := addTo_set xs ts k hkx hkt
      have HS := Lib.hid hS
      generalize xs[k] = xk at *
      generalize ts[k] = tk at *
      clear hS hkx hkt
      go_wp2
      have hO' := HO.out.set (i := k) (by rw [addTo_len _ _ _ (by rw [HXL.out, HTL.out]), HXL.out]) (xk + tk)
      rw [HS.out] at hO'
      have HO' := Lib.hid hO'
      have HC' := Lib.hid (HC.out.setCell (p := ⟨g1, k, none⟩) (.inr rfl) (.int .i64 (xk + tk)))
      clear hO'
      go_roundw
      case rel => exact ⟨k + 1, by omega, by go_num, HO'.out, HC'.out⟩
      case measure => simp [intOf]; omega
    · obtain rfl : k = m := by omega
      go_wp2
      go_ret
      refine ⟨_, rfl, ?_, Chg.to_ext HX2.out HC.out (by rintro i rfl; exact HG1.out)⟩
      have := HO.out
      unfold addTo at this
      rw [List.take_of_length_le (by rw [HXL.out]; exact Nat.le_refl _), List.take_of_length_le (by rw [HTL.out]; exact Nat.le_refl _), List.drop_eq_nil_of_le (by rw [HXL.out]; exact Nat.le_refl _), List.append_nil] at this
      exact this
end Go.Proofs.YtlkbbcfbnbnagaaGreat
