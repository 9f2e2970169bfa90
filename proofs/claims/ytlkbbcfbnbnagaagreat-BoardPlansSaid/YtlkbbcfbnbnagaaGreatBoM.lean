/-
  Package board: rows of integers: Grow, Concat of two rows, Clone; turned, isTurn.
-/
import Derived.Test.YtlkbbcfbnbnagaaGreatBoL
import Derived.Test.YtlkbbcfbnbnagaaGreatApp
import Derived.Test.YtlkbbcfbnbnagaaGreatOwn
import Derived.Lib.AppendZerosOnto
namespace Go.Proofs.YtlkbbcfbnbnagaaGreat
open Go.RowKit Go.BigFrame
attribute [local go_sem] Later.cell Later.frozen
theorem heap_new (w : World) (o : Obj) : (w.alloc o).heap[w.heap.size]? = some o := by show (w.heap.push _)[_]? = _; simp
theorem own_lt {w : World} {base : Nat} {e : TypeId} {size : Nat} {v : Value} {n : Nat} {xs : List Value} (h : w.ownsRow base e size v n xs) : ∀ k, v.ownBlock = some k → base ≤ k ∧ k < w.heap.size := World.ownsRow.lt h
theorem heap_set_same {w : World} {b j : Nat} {v : Value} {cs : Array Value} {t : TypeId} (h : w.heap[b]? = some (.cells cs t (0, 0))) : (w.setCell ⟨b, j, none⟩ v).heap[b]? = some (.cells (cs.setIfInBounds j v) t (0, 0)) := by
  obtain ⟨hlt, he⟩ := Array.getElem?_eq_some_iff.1 h
  simp only [World.setCell]
  rw [Array.getElem?_eq_getElem (by rw [Array.size_modify]; exact hlt), Array.getElem_modify_self, he]
  rfl
theorem own_set {w : World} {base g n cap i : Nat} {e : TypeId} {xs : List Value} (h : w.ownsRow base e 1 (.slice (some ⟨g, 0, none⟩) n cap) n xs) (u : Value) : (w.setCell ⟨g, i, none⟩ u).ownsRow base e 1 (.slice (some ⟨g, 0, none⟩) n cap) n (xs.set i u) := by
  obtain ⟨h1, ⟨e1, _⟩ | ⟨g', cap', cur, e1, h2, h3, h4, h5, h6, h7⟩⟩ := h
  · cases e1
  cases e1
  refine ⟨by simpa using h1, .inr ⟨g, cap, _, rfl, h2, heap_set_same h3, h4, h5, by simpa using h6, ?_⟩⟩
  rw [Array.toList_setIfInBounds, List.take_set, h7]
theorem OwnI.set {w : World} {base g cap i : Nat} {xs : List Int} {n : Nat} (h : OwnI w base (.slice (some ⟨g, 0, none⟩) n cap) xs) (hn : n = xs.length) (v : Int) : OwnI (w.setCell ⟨g, i, none⟩ (.int .i64 v)) base (.slice (some ⟨g, 0, none⟩) n cap) (xs.set i v) := by
  subst hn
  have := own_set (i := i) h (.int .i64 v)
  unfold OwnI
  rw [List.length_set, List.map_set]
  exact this
set_option maxRecDepth 100000 in
/-- A new row with room. -/
theorem grow_nil (n : Nat) (N : Int) (hN : N = n) (hn : 0 < n ∧ n ≤ 1000) (w : World) :
    Calls Tryz.prog 82 #[.slice none 0 0, .int .i64 N] w fun e w' => ∃ v, e = .returned v ∧ OwnI w' w.heap.size v [] ∧ (∃ g c, v = .slice (some ⟨g, 0, none⟩) 0 c) ∧ Ext w w' := by
  subst hN
  obtain ⟨i0, hi, hz0, hz1, hz2⟩ := info_parts info_int
  have hck : 0 + n = n := by omega
  have hold : (Builtin.firstCells i0.size 0 (.slice none 0 0)).run Tryz.prog w.drew = .ok ([] : List Value).toArray w.drew := run_firstCells_none w.drew i0.size 0 0 0
  have hrz : ∀ ty, (Builtin.append_ #[24, 3] ty #[.slice none 0 0, .int .i64 n]).run Tryz.prog w =
      .ok (.slice (some ⟨w.heap.size, 0, none⟩) n (grownCap w n 0 3)) (w.drew.alloc (.cells (#[] ++ Builtin.zeroCells (Value.int .i64 0).cells n ++ Builtin.zeroCells (Value.int .i64 0).cells (grownCap w n 0 3 - n)) 3)) := fun ty => by
    have h := Lib.run_append_grow_zeros w 24 3 ty 3 i0 (.int .i64 0) .i64 .i64 (by kernel_rfl) (by kernel_rfl) hi hz0 none 0 0 [] hold n (by omega) (by rw [hz1]; decide) (by omega) (by omega) (by rw [hz2]; omega) (by rw [hck]; exact growslice_fits (by omega) (by rw [hz2]; omega))
    rw [hck] at h
    exact h
  have hGn : n ≤ grownCap w n 0 3 := grownCap_ge w _ _ _
  have hGm : grownCap w n 0 3 ≤ maxLen := grownCap_le_maxLen w n 0 3 (by unfold maxLen; omega)
  obtain ⟨G, hG⟩ : ∃ G, grownCap w n 0 3 = G := ⟨_, rfl⟩
  rw [hG] at hrz hGn hGm
  have hw : wrap64 (n : Int) = n := wrap64_in' ⟨by omega, by omega⟩
  have HGM := Lib.hid hGm
  clear hold hck hG hGm
  have hpos : (0 : Int) < n := by omega
  go_enter Tryz.func82, Tryz.ntmps82
  go_wp2_with (at_builtin; refine Lib.wpList_append_run _ rfl _ _ _ _ rfl _ _ rfl rfl _ _ (hrz _) ?_)
  all_goals (go_ret; refine ⟨_, rfl, ?_, ⟨_, _, rfl⟩, ((Ext.refl w).drew.alloc _)⟩)
  all_goals refine ⟨rfl, .inr ⟨w.heap.size, G, _, rfl, Nat.le_refl _, heap_new w.drew _, Nat.zero_le _, HGM.out, ?_, by simp⟩⟩
  all_goals (simp [size_zeroCells]; omega)
def catTo (xs ys : List Int) : Nat → List Int
  | 0 => []
  | 1 => xs
  | _ => xs ++ ys
set_option maxRecDepth 100000 in
set_option maxHeartbeats 1000000 in
/-- Two lists, put together. -/
theorem concat2 (xs ys : List Int) (b : Nat) (xp yp : Addr) (xc yc : Nat) (w : World) (hb : Blk w b #[.slice (some xp) xs.length xc, .slice (some yp) ys.length yc]) (hx : CellsAt w .i64 (some xp) xs) (hy : CellsAt w .i64 (some yp) ys)
    (h0 : 0 < xs.length + ys.length) (h1 : xs.length + ys.length ≤ 1000) :
    Calls Tryz.prog 60 #[.slice (some ⟨b, 0, none⟩) 2 2] w fun e w' => ∃ v, e = .returned v ∧ OwnI w' w.heap.size v (xs ++ ys) ∧ Ext w w' := by
  have HB := Lib.hid hb
  have HX := Lib.hid hx
  have HY := Lib.hid hy
  obtain ⟨m, hm⟩ : ∃ m, xs.length = m := ⟨_, rfl⟩
  obtain ⟨n, hn⟩ : ∃ n, ys.length = n := ⟨_, rfl⟩
  rw [hm, hn] at h0 h1
  rw [hm, hn] at HB
  have HM := Lib.hid hm
  have HN := Lib.hid hn
  clear hb hx hy hm hn
  go_enter Tryz.func60, Tryz.ntmps60
  go_wp2
  go_loopw [3, 11] (fun s i wr => ∃ k s0 : Nat, k ≤ 2 ∧ s = .int .i64 s0 ∧ i = .int .i64 k ∧ s0 ≤ m + n ∧ ((k = 0 ∧ s0 = 0) ∨ (k = 1 ∧ s0 = m) ∨ (k = 2 ∧ s0 = m + n)) ∧ Ext w wr) (fun _ i _ => 2 - (intOf i).toNat)
  case atStart => exact ⟨0, 0, by omega, rfl, rfl, by omega, .inl ⟨rfl, rfl⟩, Ext.refl w⟩
  case round =>
    obtain ⟨k, s0, hk, rfl, rfl, hs0, hks, hx1⟩ := hrel
    have hb1 := HB.out.ext hx1
    have c0 := hb1.cell 0 (v := .slice (some xp) m xc) rfl
    have c1 := hb1.cell 1 (v := .slice (some yp) n yc) rfl
    have hbl := hb1.lt
    have HB1 := Lib.hid hb1
    clear hb1
    rcases hks with ⟨rfl, rfl⟩ | ⟨rfl, rfl⟩ | ⟨rfl, rfl⟩
    · go_wp2
      go_roundw
      case rel => exact ⟨1, m, by omega, by go_num, by go_num, by omega, .inr (.inl ⟨rfl, rfl⟩), hx1⟩
      case measure => simp [intOf]
    · go_wp2
      go_roundw
      case rel => exact ⟨2, s0 + n, by omega, by go_num, by go_num, by omega, .inr (.inr ⟨rfl, rfl⟩), hx1⟩
      case measure => simp [intOf]
    · go_wp2_with fail
      refine (grow_nil (m + n) _ (by omega) ⟨by omega, by omega⟩ _).mono ?_
      rintro e w2 ⟨v2, rfl, hO2, ⟨g2, cp2, rfl⟩, hx2⟩
      have hE2 := hx1.trans hx2
      have hO3 : OwnI w2 w.heap.size (.slice (some ⟨g2, 0, none⟩) 0 cp2) (catTo xs ys 0) := own_mono hO2 hx1.size
      have HO3 := Lib.hid hO3
      clear hO2 hO3 hx2 c0 c1 hbl HB1
      go_wp2
      go_loopw [6, 27] (fun v i wq => ∃ k : Nat, k ≤ 2 ∧ i = .int .i64 k ∧ OwnI wq w.heap.size v (catTo xs ys k) ∧ Ext w wq) (fun _ i _ => 2 - (intOf i).toNat)
      case atStart => exact ⟨0, by omega, rfl, HO3.out, hE2⟩
      case round =>
        obtain ⟨k, hk, rfl, hO, hx4⟩ := hrel
        have hb1 := HB.out.ext hx4
        have c0 := hb1.cell 0 (v := .slice (some xp) m xc) rfl
        have c1 := hb1.cell 1 (v := .slice (some yp) n yc) rfl
        have hbl := hb1.lt
        have HB1 := Lib.hid hb1
        have HO := Lib.hid hO
        have hlt := own_lt hO
        have HLT := Lib.hid hlt
        obtain ⟨va, vc, hv, hcv⟩ := hO.cells
        clear hb1 hO hlt hcv
        have hsz := hx4.size
        rcases (by omega : k = 0 ∨ k = 1 ∨ k = 2) with rfl | rfl | rfl
        · subst hv
          go_wp2_with (at_builtin; refine wp_append_vals rfl _ _ 24 3 (.int .i64 0) 1 8 rfl info_int (by kernel_rfl) rfl (by decide) w.heap.size _ 0 [] rfl HO.out (some xp) m xc (xs.map (Value.int .i64)) rfl (fun h => by cases h) (by simp [HM.out]) (CellsAt.vals (HX.out.ext hx4)) (ints_one _ _) (by omega) (by omega) hsz ?_)
          intro v' w5 hO5 hg5
          have hE5 := Chg.to_ext hx4 (grown_chg hg5) (fun i e => (HLT.out i e).1)
          have hO6 : OwnI w5 w.heap.size v' (catTo xs ys 1) := by
            show w5.ownsRow _ _ _ _ xs.length (xs.map (Value.int .i64))
            simpa [HM.out] using hO5
          have HO5 := Lib.hid hO6
          clear hO5 hg5 hO6
          go_wp2
          go_roundw
          case rel => exact ⟨1, by omega, by go_num, HO5.out, hE5⟩
          case measure => simp [intOf]
        · subst hv
          go_wp2_with (at_builtin; refine wp_append_vals rfl _ _ 24 3 (.int .i64 0) 1 8 rfl info_int (by kernel_rfl) rfl (by decide) w.heap.size _ xs.length (xs.map (Value.int .i64)) rfl HO.out (some yp) n yc (ys.map (Value.int .i64)) rfl (fun h => by cases h) (by simp [HN.out]) (CellsAt.vals (HY.out.ext hx4)) (ints_one _ _) (by rw [HM.out]; omega) (by omega) hsz ?_)
          intro v' w5 hO5 hg5
          have hE5 := Chg.to_ext hx4 (grown_chg hg5) (fun i e => (HLT.out i e).1)
          have hO6 : OwnI w5 w.heap.size v' (catTo xs ys 2) := by
            show w5.ownsRow _ _ _ _ (xs ++ ys).length ((xs ++ ys).map (Value.int .i64))
            rw [List.length_append, List.map_append, HN.out]; exact hO5
          have HO5 := Lib.hid hO6
          clear hO5 hg5 hO6
          go_wp2
          go_roundw
          case rel => exact ⟨2, by omega, by go_num, HO5.out, hE5⟩
          case measure => simp [intOf]
        · subst hv
          go_wp2
          go_ret
          exact ⟨_, rfl, HO.out, hx4⟩
end Go.Proofs.YtlkbbcfbnbnagaaGreat
