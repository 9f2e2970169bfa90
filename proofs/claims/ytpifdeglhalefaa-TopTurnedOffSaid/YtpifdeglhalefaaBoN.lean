/-
  Package board: Clone, Clip; isTurn, turned, after.
-/
import Derived.Test.YtpifdeglhalefaaBoL
import Derived.Test.YtpifdeglhalefaaSen
import Derived.Lib.AppendZerosOnto
import Derived.StillTailTactics
namespace Go.Proofs.Ytpifdeglhalefaa
open Go.RowKit Go.BigFrame
attribute [local go_sem] Later.cell Later.frozen
theorem heap_new (w : World) (o : Obj) : (w.alloc o).heap[w.heap.size]? = some o := by show (w.heap.push _)[_]? = _; simp
theorem own_lt {w : World} {base : Nat} {e : TypeId} {size : Nat} {v : Value} {n : Nat} {xs : List Value} (h : w.ownsRow base e size v n xs) : ∀ k, v.ownBlock = some k → base ≤ k ∧ k < w.heap.size := World.ownsRow.lt h
theorem heap_set_same {w : World} {b j : Nat} {v : Value} {cs : Array Value} {t : TypeId} (h : w.heap[b]? = some (.cells cs t (0, 0))) : (w.setCell ⟨b, j, none⟩ v).heap[b]? = some (.cells (cs.setIfInBounds j v) t (0, 0)) := by
  obtain ⟨hlt, he⟩ := Array.getElem?_eq_some_iff.1 h
  simp only [World.setCell]
  rw [Array.getElem?_eq_getElem (by rw [Array.size_modify]; exact hlt), Array.getElem_modify_self, he]
  rfl
theorem own_set {w : World} {base g n cap i : Nat} {e : TypeId} {xs : List Value} (h : w.ownsRow base e 1 (.slice (some ⟨g, 0, none⟩) n cap) n xs) (u : Value) : (w.setCell ⟨g, i, none⟩ u).ownsRow base e 1 (.slice (some ⟨g, 0, none⟩) n cap) n (xs.set i u) := by
  obtain ⟨h1, ⟨e1, _⟩ | ⟨g', cap', cur, e1, h2, h3, h4, h5, h6, h7⟩⟩ := h
  · cases e1
  cases e1
  refine ⟨by simpa using h1, .inr ⟨g, cap, _, rfl, h2, heap_set_same h3, h4, h5, by simpa using h6, ?_⟩⟩
  rw [Array.toList_setIfInBounds, List.take_set, h7]
theorem OwnI.set {w : World} {base g cap i : Nat} {xs : List Int} {n : Nat} (h : OwnI w base (.slice (some ⟨g, 0, none⟩) n cap) xs) (hn : n = xs.length) (v : Int) : OwnI (w.setCell ⟨g, i, none⟩ (.int .i64 v)) base (.slice (some ⟨g, 0, none⟩) n cap) (xs.set i v) := by
  subst hn
  have := own_set (i := i) h (.int .i64 v)
  unfold OwnI
  rw [List.length_set, List.map_set]
  exact this
set_option maxRecDepth 100000 in
/-- A new row with room. -/
theorem grow_nil (n : Nat) (N : Int) (hN : N = n) (hn : 0 < n ∧ n ≤ 1000) (w : World) :
    Calls Try.prog 79 #[.slice none 0 0, .int .i64 N] w fun e w' => ∃ v, e = .returned v ∧ OwnI w' w.heap.size v [] ∧ (∃ g c, v = .slice (some ⟨g, 0, none⟩) 0 c) ∧ Ext w w' := by
  subst hN
  obtain ⟨i0, hi, hz0, hz1, hz2⟩ := info_parts info_int
  have hck : 0 + n = n := by omega
  have hold : (Builtin.firstCells i0.size 0 (.slice none 0 0)).run Try.prog w.drew = .ok ([] : List Value).toArray w.drew := run_firstCells_none w.drew i0.size 0 0 0
  have hrz : ∀ ty, (Builtin.append_ #[25, 3] ty #[.slice none 0 0, .int .i64 n]).run Try.prog w =
      .ok (.slice (some ⟨w.heap.size, 0, none⟩) n (grownCap w n 0 3)) (w.drew.alloc (.cells (#[] ++ Builtin.zeroCells (Value.int .i64 0).cells n ++ Builtin.zeroCells (Value.int .i64 0).cells (grownCap w n 0 3 - n)) 3)) := fun ty => by
    have h := Lib.run_append_grow_zeros w 25 3 ty 3 i0 (.int .i64 0) .i64 .i64 (by kernel_rfl) (by kernel_rfl) hi hz0 none 0 0 [] hold n (by omega) (by rw [hz1]; decide) (by omega) (by omega) (by rw [hz2]; omega) (by rw [hck]; exact growslice_fits (by omega) (by rw [hz2]; omega))
    rw [hck] at h
    exact h
  have hGn : n ≤ grownCap w n 0 3 := grownCap_ge w _ _ _
  have hGm : grownCap w n 0 3 ≤ maxLen := grownCap_le_maxLen w n 0 3 (by unfold maxLen; omega)
  obtain ⟨G, hG⟩ : ∃ G, grownCap w n 0 3 = G := ⟨_, rfl⟩
  rw [hG] at hrz hGn hGm
  have hw : wrap64 (n : Int) = n := wrap64_in' ⟨by omega, by omega⟩
  have HGM := Lib.hid hGm
  clear hold hck hG hGm
  have hpos : (0 : Int) < n := by omega
  go_enter Try.func79, Try.ntmps79
  go_wp2_with (at_builtin; refine Lib.wpList_append_run _ rfl _ _ _ _ rfl _ _ rfl rfl _ _ (hrz _) ?_)
  all_goals (go_ret; refine ⟨_, rfl, ?_, ⟨_, _, rfl⟩, ((Ext.refl w).drew.alloc _)⟩)
  all_goals refine ⟨rfl, .inr ⟨w.heap.size, G, _, rfl, Nat.le_refl _, heap_new w.drew _, Nat.zero_le _, HGM.out, ?_, by simp⟩⟩
  all_goals (simp [size_zeroCells]; omega)
def catTo (xs ys : List Int) : Nat → List Int
  | 0 => []
  | 1 => xs
  | _ => xs ++ ys
set_option maxRecDepth 100000 in
set_option maxHeartbeats 1000000 in
/-- Two lists, put together. -/
theorem concat2 (xs ys : List Int) (b : Nat) (xp yp : Addr) (xc yc : Nat) (w : World) (hb : Blk w b #[.slice (some xp) xs.length xc, .slice (some yp) ys.length yc]) (hx : CellsAt w .i64 (some xp) xs) (hy : CellsAt w .i64 (some yp) ys)
    (h0 : 0 < xs.length + ys.length) (h1 : xs.length + ys.length ≤ 1000) :
    Calls Try.prog 49 #[.slice (some ⟨b, 0, none⟩) 2 2] w fun e w' => ∃ v, e = .returned v ∧ OwnI w' w.heap.size v (xs ++ ys) ∧ Ext w w' := by
  have HB := Lib.hid hb
  have HX := Lib.hid hx
  have HY := Lib.hid hy
  obtain ⟨m, hm⟩ : ∃ m, xs.length = m := ⟨_, rfl⟩
  obtain ⟨n, hn⟩ : ∃ n, ys.length = n := ⟨_, rfl⟩
  rw [hm, hn] at h0 h1
  rw [hm, hn] at HB
  have HM := Lib.hid hm
  have HN := Lib.hid hn
  clear hb hx hy hm hn
  go_enter Try.func49, Try.ntmps49
  go_wp2
  go_loopw [3, 11] (fun s i wr => ∃ k s0 : Nat, k ≤ 2 ∧ s = .int .i64 s0 ∧ i = .int .i64 k ∧ s0 ≤ m + n ∧ ((k = 0 ∧ s0 = 0) ∨ (k = 1 ∧ s0 = m) ∨ (k = 2 ∧ s0 = m + n)) ∧ Ext w wr) (fun _ i _ => 2 - (intOf i).toNat)
  case atStart => exact ⟨0, 0, by omega, rfl, rfl, by omega, .inl ⟨rfl, rfl⟩, Ext.refl w⟩
  case round =>
    obtain ⟨k, s0, hk, rfl, rfl, hs0, hks, hx1⟩ := hrel
    have hb1 := HB.out.ext hx1
    have c0 := hb1.cell 0 (v := .slice (some xp) m xc) rfl
    have c1 := hb1.cell 1 (v := .slice (some yp) n yc) rfl
    have hbl := hb1.lt
    have HB1 := Lib.hid hb1
    clear hb1
    rcases hks with ⟨rfl, rfl⟩ | ⟨rfl, rfl⟩ | ⟨rfl, rfl⟩
    · go_wp2
      go_roundw
      case rel => exact ⟨1, m, by omega, by go_num, by go_num, by omega, .inr (.inl ⟨rfl, rfl⟩), hx1⟩
      case measure => simp [intOf]
    · go_wp2
      go_roundw
      case rel => exact ⟨2, s0 + n, by omega, by go_num, by go_num, by omega, .inr (.inr ⟨rfl, rfl⟩), hx1⟩
      case measure => simp [intOf]
    · go_wp2_with fail
      refine (grow_nil (m + n) _ (by omega) ⟨by omega, by omega⟩ _).mono ?_
      rintro e w2 ⟨v2, rfl, hO2, ⟨g2, cp2, rfl⟩, hx2⟩
      have hE2 := hx1.trans hx2
      have hO3 : OwnI w2 w.heap.size (.slice (some ⟨g2, 0, none⟩) 0 cp2) (catTo xs ys 0) := own_mono hO2 hx1.size
      have HO3 := Lib.hid hO3
      clear hO2 hO3 hx2 c0 c1 hbl HB1
      go_wp2
      go_loopw [6, 27] (fun v i wq => ∃ k : Nat, k ≤ 2 ∧ i = .int .i64 k ∧ OwnI wq w.heap.size v (catTo xs ys k) ∧ Ext w wq) (fun _ i _ => 2 - (intOf i).toNat)
      case atStart => exact ⟨0, by omega, rfl, HO3.out, hE2⟩
      case round =>
        obtain ⟨k, hk, rfl, hO, hx4⟩ := hrel
        have hb1 := HB.out.ext hx4
        have c0 := hb1.cell 0 (v := .slice (some xp) m xc) rfl
        have c1 := hb1.cell 1 (v := .slice (some yp) n yc) rfl
        have hbl := hb1.lt
        have HB1 := Lib.hid hb1
        have HO := Lib.hid hO
        have hlt := own_lt hO
        have HLT := Lib.hid hlt
        obtain ⟨va, vc, hv, hcv⟩ := hO.cells
        clear hb1 hO hlt hcv
        have hsz := hx4.size
        rcases (by omega : k = 0 ∨ k = 1 ∨ k = 2) with rfl | rfl | rfl
        · subst hv
          go_wp2_with (at_builtin; refine wp_append_vals rfl _ _ 25 3 (.int .i64 0) 1 8 rfl info_int (by kernel_rfl) rfl (by decide) w.heap.size _ 0 [] rfl HO.out (some xp) m xc (xs.map (Value.int .i64)) rfl (fun h => by cases h) (by simp [HM.out]) (CellsAt.vals (HX.out.ext hx4)) (ints_one _ _) (by omega) (by omega) hsz ?_)
          intro v' w5 hO5 hg5
          have hE5 := Chg.to_ext hx4 (grown_chg hg5) (fun i e => (HLT.out i e).1)
          have hO6 : OwnI w5 w.heap.size v' (catTo xs ys 1) := by
            show w5.ownsRow _ _ _ _ xs.length (xs.map (Value.int .i64))
            simpa [HM.out] using hO5
          have HO5 := Lib.hid hO6
          clear hO5 hg5 hO6
          go_wp2
          go_roundw
          case rel => exact ⟨1, by omega, by go_num, HO5.out, hE5⟩
          case measure => simp [intOf]
        · subst hv
          go_wp2_with (at_builtin; refine wp_append_vals rfl _ _ 25 3 (.int .i64 0) 1 8 rfl info_int (by kernel_rfl) rfl (by decide) w.heap.size _ xs.length (xs.map (Value.int .i64)) rfl HO.out (some yp) n yc (ys.map (Value.int .i64)) rfl (fun h => by cases h) (by simp [HN.out]) (CellsAt.vals (HY.out.ext hx4)) (ints_one _ _) (by rw [HM.out]; omega) (by omega) hsz ?_)
          intro v' w5 hO5 hg5
          have hE5 := Chg.to_ext hx4 (grown_chg hg5) (fun i e => (HLT.out i e).1)
          have hO6 : OwnI w5 w.heap.size v' (catTo xs ys 2) := by
            show w5.ownsRow _ _ _ _ (xs ++ ys).length ((xs ++ ys).map (Value.int .i64))
            rw [List.length_append, List.map_append, HN.out]; exact hO5
          have HO5 := Lib.hid hO6
          clear hO5 hg5 hO6
          go_wp2
          go_roundw
          case rel => exact ⟨2, by omega, by go_num, HO5.out, hE5⟩
          case measure => simp [intOf]
        · subst hv
          go_wp2
          go_ret
          exact ⟨_, rfl, HO.out, hx4⟩
end Go.Proofs.Ytpifdeglhalefaa
namespace Go.Proofs.Ytpifdeglhalefaa
open Go.RowKit Go.BigFrame
attribute [local go_sem] Later.cell Later.frozen
theorem brd_isTurn (v : BrdV) (b : Brd) (k : Int) (w : World) (hs : b.nums.length ≤ 1000000) :
    Calls Try.prog 27 #[.agg (v.cells b), .int .i64 k] w fun e w' => e = .returned (.bool (ins 0 (b.nums.length - 1) [k])) ∧ Ext w w' := by
  obtain ⟨eye, bull, rings, lines, nums, wire⟩ := b
  obtain ⟨ra, la, na, rc, lc, nc⟩ := v
  unfold BrdV.cells
  simp only at hs ⊢
  go_enter Try.func27, Try.ntmps27
  go_wp2_with fail
  refine (brd_within_1 _ _ k _ _ (by simp)).mono ?_
  rintro e w1 ⟨rfl, hx1⟩
  go_wp2
  go_ret
  exact ⟨rfl, ((Ext.refl w).alloc _).trans hx1⟩
def turnL (xs : List Int) (k : Nat) : List Int := xs.drop (xs.length - k) ++ xs.take (xs.length - k)
theorem CellsAt.sub {w : World} {b o : Nat} {xs : List Int} (h : CellsAt w .i64 (some ⟨b, o, none⟩) xs) (i n : Nat) : CellsAt w .i64 (some ⟨b, o + i, none⟩) ((xs.drop i).take n) := fun j hj => by
  have hj' : j < (xs.drop i).length := Nat.lt_of_lt_of_le hj (by simp; omega)
  simp at hj'
  obtain ⟨b', o', e, hc⟩ := h (i + j) (by omega)
  cases e
  refine ⟨b, o + i, rfl, ?_⟩
  rw [List.getElem_take, List.getElem_drop, Nat.add_assoc]
  exact hc
set_option maxRecDepth 100000 in
set_option maxHeartbeats 1000000 in
theorem brd_turned (xs : List Int) (b o c k : Nat) (w : World) (hx : CellsAt w .i64 (some ⟨b, o, none⟩) xs) (hc : xs.length ≤ c) (hk : k < xs.length) (hl : xs.length ≤ 1000) (_hcm : c ≤ maxLen) :
    Calls Try.prog 28 #[.slice (some ⟨b, o, none⟩) xs.length c, .int .i64 k] w fun e w' => ∃ v, e = .returned v ∧ OwnI w' w.heap.size v (turnL xs k) ∧ Ext w w' := by
  have HX := Lib.hid hx
  unfold maxLen at _hcm
  obtain ⟨m, hm⟩ : ∃ m, xs.length = m := ⟨_, rfl⟩
  rw [hm] at hc hk hl ⊢
  clear hx
  obtain ⟨j, rfl⟩ : ∃ j, m = j + k := ⟨m - k, by omega⟩
  have hj : ((j + k : Nat) : Int) - (k : Int) = (j : Int) := by omega
  obtain ⟨xp, hxp⟩ : ∃ xp : Addr, (if c = j then (⟨b, o, none⟩ : Addr) else ⟨b, o + j, none⟩) = xp := ⟨_, rfl⟩
  have hs1 : ∀ W, (Instr.slice 25 (.slice (some ⟨b, o, none⟩) (j + k) c) (some (.int .i64 j)) none none).run Try.prog W = .ok (.slice (some xp) k (c - j)) W := by
    intro W
    have e1 : ((j : Int) ≤ (j : Int) + k) := by omega
    simp [Instr.slice, go_sem]
    rw [if_pos e1, ← hxp]
    split <;> rfl
  have hs2 : ∀ W, (Instr.slice 25 (.slice (some ⟨b, o, none⟩) (j + k) c) none (some (.int .i64 j)) none).run Try.prog W = .ok (.slice (some ⟨b, o, none⟩) j c) W := by
    intro W
    simp [Instr.slice, go_sem]
    intro e1
    omega
  have hX1 : CellsAt w .i64 (some xp) (xs.drop j) := by
    have h0 := HX.out.sub j k
    have e0 : (xs.drop j).take k = xs.drop j := List.take_of_length_le (by simp; omega)
    rw [e0] at h0
    rw [← hxp]
    split
    · have : xs.drop j = [] := List.drop_eq_nil_of_le (by omega)
      rw [this]
      exact CellsAt.nil _ _ _
    · exact h0
  have hX2 : CellsAt w .i64 (some ⟨b, o, none⟩) (xs.take j) := by
    have h0 := HX.out.sub 0 j
    rwa [List.drop_zero, Nat.add_zero] at h0
  have HX1 := Lib.hid hX1
  have HX2 := Lib.hid hX2
  have HLN := Lib.hid (show turnL xs k = xs.drop j ++ xs.take j by unfold turnL; rw [hm, Nat.add_sub_cancel])
  have HL1 := Lib.hid (show (xs.drop j).length = k by simp [hm])
  have HL2 := Lib.hid (show (xs.take j).length = j by simp [hm])
  clear hX1 hX2 hxp hm HX
  go_enter Try.func28, Try.ntmps28
  go_upto_region 2 with fail
  go_still_tail 6, (by kernel_rfl)
  change wpList _ _ _ _ _ w.drew
  go_wp2_with fail
  have hcc := concat2 (xs.drop j) (xs.take j) w.heap.size xp ⟨b, o, none⟩ (c - j) c (w.drew.alloc (.cells #[.slice (some xp) k (c - j), .slice (some ⟨b, o, none⟩) j c] 25)) (by rw [HL1.out, HL2.out]; exact Blk.new w.drew _ _) (HX1.out.ext ((Ext.refl w).drew.alloc _)) (HX2.out.ext ((Ext.refl w).drew.alloc _)) (by rw [HL1.out, HL2.out]; omega) (by rw [HL1.out, HL2.out]; omega)
  refine hcc.mono ?_
  rintro e w2 ⟨v, rfl, hO, hx2⟩
  have hO2 : OwnI w2 w.heap.size v (turnL xs k) := by rw [HLN.out]; exact own_mono hO (by simp)
  have HO2 := Lib.hid hO2
  have HX2' := Lib.hid (((Ext.refl w).drew.alloc _).trans hx2)
  clear hO hO2 hx2 hcc
  go_wp2
  go_ret
  exact ⟨_, rfl, HO2.out, HX2'.out⟩
def addL (xs ys : List Int) : List Int := List.zipWith (· + ·) xs ys
def addTo (xs ys : List Int) (k : Nat) : List Int := addL (xs.take k) (ys.take k) ++ xs.drop k
theorem addTo_get (xs ys : List Int) (k : Nat) (h1 : k < xs.length) (h2 : k < ys.length) : (addTo xs ys k)[k]? = some xs[k] := by
  unfold addTo addL
  rw [List.getElem?_append_right (by simp; omega)]
  simp [List.getElem?_drop]
  have e2 : k + (k - min k (min xs.length (min k ys.length))) = k := by omega
  simp only [e2]
  exact List.getElem?_eq_getElem h1
theorem addTo_set (xs ys : List Int) (k : Nat) (h1 : k < xs.length) (h2 : k < ys.length) : (addTo xs ys k).set k (xs[k] + ys[k]) = addTo xs ys (k + 1) := by
  unfold addTo addL
  have hl : (List.zipWith (· + ·) (xs.take k) (ys.take k)).length = k := by simp; omega
  rw [List.set_append_right _ _ (by omega), hl, Nat.sub_self, List.drop_eq_getElem_cons h1, List.set_cons_zero, List.take_succ_eq_append_getElem h1, List.take_succ_eq_append_getElem h2,
    List.zipWith_append (by simp; omega)]
  simp
theorem addTo_len (xs ys : List Int) (k : Nat) (h : xs.length = ys.length) : (addTo xs ys k).length = xs.length := by
  unfold addTo addL; simp; omega
def afterL (worn week : List Int) (k : Nat) : List Int := addL worn (turnL week k)
theorem turnL_len (xs : List Int) (k : Nat) (h : k ≤ xs.length) : (turnL xs k).length = xs.length := by
  unfold turnL
  rw [List.length_append, List.length_drop, List.length_take]
  omega
theorem turnL_mem (xs : List Int) (k : Nat) : ∀ x ∈ turnL xs k, x ∈ xs := by
  intro x hx
  unfold turnL at hx
  rcases List.mem_append.1 hx with h | h
  · exact List.mem_of_mem_drop h
  · exact List.mem_of_mem_take h
theorem own_head {w : World} {base : Nat} {v : Value} {xs : List Int} (h : OwnI w base v xs) (h0 : 0 < xs.length) : ∃ g c, v = .slice (some ⟨g, 0, none⟩) xs.length c ∧ base ≤ g ∧ g < w.heap.size ∧ xs.length ≤ c ∧ c ≤ maxLen := by
  obtain ⟨h1, ⟨e, h2⟩ | ⟨g, cap, cur, e, h2, h3, h4, h5, h6⟩⟩ := h
  · omega
  · exact ⟨g, cap, e, h2, (Array.getElem?_eq_some_iff.1 h3).1, h4, h5⟩
theorem own_at {w : World} {base g n c : Nat} {xs : List Int} (h : OwnI w base (.slice (some ⟨g, 0, none⟩) n c) xs) (k : Nat) (x : Int) (hk : xs[k]? = some x) : w.cell? ⟨g, k, none⟩ = some (.int .i64 x) ∧ w.frozen? ⟨g, k, none⟩ = false ∧ g < w.heap.size := by
  have hl := (World.ownsRow.lt h g rfl).2
  have hc := World.ownsRow.cells (w := w) (g := g) h rfl k (.int .i64 x) (by simp [hk])
  rw [addr_add, Nat.zero_add] at hc
  refine ⟨hc, ?_, hl⟩
  obtain ⟨h1, ⟨e, h2⟩ | ⟨g', cap, cur, e, h2, h3, h4, h5, h6⟩⟩ := h
  · cases e
  · cases e
    exact Blk.frozen ⟨_, h3⟩ k
end Go.Proofs.Ytpifdeglhalefaa
