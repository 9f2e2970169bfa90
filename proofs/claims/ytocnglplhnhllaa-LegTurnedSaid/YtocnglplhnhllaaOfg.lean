/-
  Package leg: the best darts at the bull.
-/
import Derived.Test.YtocnglplhnhllaaOff
namespace Go.Proofs.Ytocnglplhnhllaa
open Go.RowKit Go.BigFrame
attribute [local go_sem] Later.cell Later.frozen
/-- The first of the least ones. -/
def minT : Toss → List Toss → Toss
  | m, [] => m
  | m, x :: l => minT (if x.rank < m.rank then x else m) l
def Toss.Fit (o : Toss) : Prop := I64 o.bed ∧ (0 ≤ o.far ∧ o.far ≤ 10000)
theorem Toss.Fit.rank {o : Toss} (h : o.Fit) : -2 ≤ o.rank ∧ o.rank ≤ 10001 := Toss.rank_bounds ⟨by have := h.2; omega, by have := h.2; omega⟩ h.2
set_option maxHeartbeats 1000000 in
theorem minFunc_best (l : List Toss) (a : Option Addr) (c : Nat) (w : World) (ha : TossAt w a l) (hl : 0 < l.length) (hlen : l.length ≤ 1000000000000) (hf : ∀ x ∈ l, x.Fit) (T : Toss) (hT : minT l[0] (l.drop 1) = T) :
    Calls Try.prog 75 #[.slice a l.length c, .func (.func 76) #[] #[]] w fun e w' => e = .returned T.agg ∧ Ext w w' := by
  have HT := Lib.hid hT
  have hA := Lib.hid ha
  have hF := Lib.hid hf
  have hE := enters_best1
  unfold Enters at hE
  obtain ⟨b, off, rfl, k0, k1⟩ := ha 0 hl
  simp only [Nat.zero_mul, Nat.add_zero] at k0 k1
  have hf0 := hf _ (List.getElem_mem hl)
  generalize l[0] = m0 at *
  obtain ⟨mb, mf⟩ := m0
  clear hT ha hf
  have hbl : b < w.heap.size := lt_of_cell k0
  go_enter Try.func75, Try.ntmps75
  go_wp2
  go_loopw [6] (fun i wr => ∃ (k : Nat) (m : Toss), 1 ≤ k ∧ k ≤ l.length ∧ i = .int .i64 k ∧ minT m (l.drop k) = T ∧ m.Fit ∧ Blk wr (w.heap.size + 1) #[.int .i64 m.bed, .int .i64 m.far] ∧ Blk wr w.heap.size #[.int .i64 0, .int .i64 0] ∧ Ext w wr) (fun i _ => l.length - (intOf i).toNat)
  case atStart => exact ⟨1, ⟨mb, mf⟩, Nat.le_refl _, hl, rfl, HT.out, hf0, Blk.at _ (by simp), (Blk.at _ (by simp)).alloc _, ((Ext.refl w).alloc _).alloc _⟩
  case round =>
    obtain ⟨k, m, hk1, hk, rfl, hS, hm, hV, hZ, hx⟩ := hrel
    have HS := Lib.hid hS
    have HZ := Lib.hid hZ
    have HV := Lib.hid hV
    have hvlt := hV.lt
    have v0 := hV.cell 0 (v := .int .i64 m.bed) rfl
    have v1 := hV.cell 1 (v := .int .i64 m.far) rfl
    clear hS hZ hV HT k0 k1
    by_cases hlt : k < l.length
    · obtain ⟨b', off', e', hc0, hc1⟩ := hA.out k hlt
      cases e'
      replace hc0 := hx.cell hc0
      replace hc1 := hx.cell hc1
      have hlt0 : b < wr.heap.size := lt_of_cell hc0
      have hdrop : l.drop k = l[k] :: l.drop (k + 1) := by simp
      have hfk := hF.out _ (List.getElem_mem hlt)
      have hB := Lib.hid (fun w => best1 l[k] m w hfk.rank hm.rank)
      go_wp2
      refine wp_region_later (by kernel_rfl) (by kernel_rfl) ?_
      repeat (go_big_quiet_step (refine Calls.later (hB.out _)))
      refine wpQuiet_nil ?_
      intro w2 hw2
      obtain ⟨⟨w2, hx2⟩, rfl⟩ := hw2
      have hV2 := HV.out.ext hx2
      have hZ2 := HZ.out.ext hx2
      have hE2 := hx.trans hx2
      have d0 := hx2.cell hc0
      have d1 := hx2.cell hc1
      have hlt2 : b < w2.heap.size := lt_of_cell d0
      have hvlt2 := hV2.lt
      have f0 := hV2.frozen 0
      have f1 := hV2.frozen 1
      have v0' := hV2.cell 0 (v := .int .i64 m.bed) rfl
      have v1' := hV2.cell 1 (v := .int .i64 m.far) rfl
      have HV2 := Lib.hid hV2
      have HZ2 := Lib.hid hZ2
      clear hV2 hZ2 HV HZ hx2 v0 v1 hc0 hc1 hvlt hlt0
      cases e1 : decide (l[k].rank - m.rank < 0)
      · go_wp2
        go_roundw
        case rel => exact ⟨k + 1, m, by omega, by omega, by go_num, by rw [← HS.out, hdrop]; simp only [minT]; rw [if_neg (by have := of_decide_eq_false e1; omega)], hm, HV2.out, HZ2.out, hE2⟩
        case measure => simp [intOf]; omega
      · go_wp2
        go_roundw
        case rel => exact ⟨k + 1, l[k], by omega, by omega, by go_num, by rw [← HS.out, hdrop]; simp only [minT]; rw [if_pos (by have := of_decide_eq_true e1; omega)], hfk, (HV2.out.set 0 (.int .i64 l[k].bed)).set 1 (.int .i64 l[k].far), (HZ2.out.other (by simp) _).other (by simp) _, (hE2.setCell (by simp) _).setCell (by simp) _⟩
        case measure => simp [intOf]; omega
    · obtain rfl : k = l.length := by omega
      have hT : m = T := by rw [← HS.out]; simp [minT]
      subst hT
      have hZ := HZ.out
      have z0 := hZ.cell 0 (v := .int .i64 0) rfl
      have z1 := hZ.cell 1 (v := .int .i64 0) rfl
      have g0 := hZ.frozen 0
      have g1 := hZ.frozen 1
      have hzlt := hZ.lt
      clear hZ
      go_wp2
      refine bodyPost_ret (v := m.agg) (by simp [results, Try.results75, go_sem, Toss.agg, *]) rfl ⟨rfl, (hx.setCell (by simp) _).setCell (by simp) _⟩
end Go.Proofs.Ytocnglplhnhllaa
