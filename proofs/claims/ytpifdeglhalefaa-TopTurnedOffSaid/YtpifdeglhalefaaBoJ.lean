/-
  Package board: bed.
-/
import Derived.Test.YtpifdeglhalefaaBoI
namespace Go.Proofs.Ytpifdeglhalefaa
open Go.RowKit Go.BigFrame
attribute [local go_sem] Later.cell Later.frozen
theorem idx_find {α : Type} (p : α → Bool) : ∀ (l : List α), (idx p l < 0 → l.find? p = none) ∧ ∀ k, idx p l = (k : Nat) → ∃ h : k < l.length, l.find? p = some l[k]
  | [] => ⟨fun _ => rfl, fun k h => by simp [idx] at h⟩
  | x :: l => by
    obtain ⟨h1, h2⟩ := idx_find p l
    cases hx : p x
    · simp only [idx, hx, List.find?_cons]
      by_cases hi : idx p l < 0
      · simp only [hi, if_pos, Bool.false_eq_true, if_false]
        exact ⟨fun _ => h1 hi, fun k h => by omega⟩
      · simp only [hi, Bool.false_eq_true, if_false]
        refine ⟨fun h => by omega, fun k h => ?_⟩
        obtain ⟨j, rfl⟩ : ∃ j, k = j + 1 := ⟨k - 1, by omega⟩
        obtain ⟨hl, hf⟩ := h2 j (by omega)
        exact ⟨by simpa using hl, by simpa using hf⟩
    · simp only [idx, hx, List.find?_cons, if_true]
      exact ⟨fun h => by omega, fun k h => by obtain rfl : k = 0 := by omega
                                              exact ⟨by simp, rfl⟩⟩
def ringOf (b : Brd) (q : Int) : Option Rg := b.rings.find? (inRing q)
def bedOf (b : Brd) (d : Pt) : Option Rg → Int
  | none => 0
  | some r => if r.factor = 0 then 0 else 100 * r.factor + b.nums.getD (secB b.lines d) 0
def bedB (b : Brd) (d : Pt) : Int :=
  if onWire b d = true then 0 else if dotP d d < b.eye * b.eye then 225 else if dotP d d < b.bull * b.bull then 125 else bedOf b d (ringOf b (dotP d d))
theorem enters_bed1 : Enters Try.prog 53 := enters_of Try.func53 (by kernel_rfl) rfl
set_option maxHeartbeats 2000000 in
theorem brd_bed (v : BrdV) (b : Brd) (d : Pt) (w : World) (h : BrdAt w v b) (hg : GoodB b) (hd : d.ok) :
    Calls Try.prog 30 #[.agg (v.cells b), d.agg] w fun e w' => e = .returned (.tuple #[.int .i64 (bedB b d), .bool (onWire b d)]) ∧ Ext w w' := by
  have HSQ := Lib.hid (fun W => brd_square d W hd)
  have HW := Lib.hid (fun W (hx : Ext w W) => brd_isWire v b d W (h.ext hx) hg hd)
  have HS := Lib.hid (fun W (hx : Ext w W) => brd_sector v b d W ((h.ext hx).lines) hg.small.l hg.ptl (fun i hi => hg.pts _ (List.getElem_mem hi)) hd)
  have hq0 := dot_small hd hd
  obtain ⟨rb, hrb⟩ : ∃ c, bedB b d = c := ⟨_, rfl⟩
  obtain ⟨rw', hrw⟩ : ∃ c, onWire b d = c := ⟨_, rfl⟩
  obtain ⟨q, hq⟩ : ∃ c, dotP d d = c := ⟨_, rfl⟩
  obtain ⟨sc, hsc⟩ : ∃ c, secB b.lines d = c := ⟨_, rfl⟩
  have hE : rb = if rw' = true then 0 else if q < b.eye * b.eye then 225 else if q < b.bull * b.bull then 125 else bedOf b d (ringOf b q) := by rw [← hrb, ← hq, ← hrw]; rfl
  have hsl : sc < b.nums.length := by
    rw [hg.len, ← hsc]
    exact secUp_lt _ _ _ _ hg.ptl
  rw [hrb, hrw]
  rw [hrw] at HW
  rw [hsc] at HS
  rw [hq] at HSQ hq0
  have HRB := Lib.hid hE
  have HB := Lib.hid h
  have HG := Lib.hid hg
  have HSC := Lib.hid hsc
  have hlen := hg.small.r
  have hlenl := hg.small.n
  obtain ⟨he0, he1⟩ : 0 ≤ b.eye ∧ b.eye ≤ 5000 := hg.rad b.eye (by simp [Brd.radii])
  obtain ⟨hu0, hu1⟩ : 0 ≤ b.bull ∧ b.bull ≤ 5000 := hg.rad b.bull (by simp [Brd.radii])
  obtain ⟨eye, bull, rings, lines, nums, wire⟩ := b
  obtain ⟨ra, la, na, rc, lc, nc⟩ := v
  obtain ⟨dx, dy⟩ := d
  unfold Pt.agg BrdV.cells at *
  simp only at hlen hlenl he0 he1 hu0 hu1 hsl HW HS ⊢
  have a0 := mul_small (a := eye) (b := eye) (by omega) (by omega)
  have a1 := mul_small (a := bull) (b := bull) (by omega) (by omega)
  obtain ⟨a00, a01⟩ := a0
  obtain ⟨a10, a11⟩ := a1
  clear hrb h hg hE hq hd hrw hsc
  go_enter Try.func30, Try.ntmps30
  go_wp2_with fail
  refine (HSQ.out _).mono ?_
  rintro e w1 ⟨rfl, hx1⟩
  have hx := Ext.trans (((Ext.refl w).alloc _).alloc _) hx1
  have hb1 : Blk w1 w.heap.size #[.int .i64 eye, .int .i64 bull, .slice ra rings.length rc, .slice la lines.length lc, .slice na nums.length nc, .int .i64 wire] := ((Blk.new w _ _).alloc _).ext hx1
  have hd1 : Blk w1 (w.heap.size + 1) #[.int .i64 dx, .int .i64 dy] := (Blk.at _ (by simp)).ext hx1
  have m0 := hb1.cell 0 (v := .int .i64 eye) rfl
  have m1 := hb1.cell 1 (v := .int .i64 bull) rfl
  have m2 := hb1.cell 2 (v := .slice ra rings.length rc) rfl
  have m3 := hb1.cell 3 (v := .slice la lines.length lc) rfl
  have m4 := hb1.cell 4 (v := .slice na nums.length nc) rfl
  have m5 := hb1.cell 5 (v := .int .i64 wire) rfl
  have d0 := hd1.cell 0 (v := .int .i64 dx) rfl
  have d1 := hd1.cell 1 (v := .int .i64 dy) rfl
  have hml := hb1.lt
  have hdl := hd1.lt
  have hkt : w.heap.size < w1.heap.size := hml
  clear hb1 hd1 hx1
  go_wp2_with fail
  refine (HW.out _ (hx.alloc _)).mono ?_
  rintro e w2 ⟨rfl, hx2⟩
  have hX := (hx.alloc (.cells #[.int .i64 q] 3)).trans hx2
  have q0 : w2.cell? ⟨w1.heap.size, 0, none⟩ = some (.int .i64 q) := hx2.cell (by simp [go_sem])
  have hx12 : Ext w1 w2 := ((Ext.refl w1).alloc _).trans hx2
  replace m0 := hx12.cell m0
  replace m1 := hx12.cell m1
  replace m2 := hx12.cell m2
  replace m3 := hx12.cell m3
  replace m4 := hx12.cell m4
  replace m5 := hx12.cell m5
  replace d0 := hx12.cell d0
  replace d1 := hx12.cell d1
  have hs2 := hx12.size
  replace hml : w.heap.size < w2.heap.size := by omega
  replace hdl : w.heap.size + 1 < w2.heap.size := by omega
  have hql : w1.heap.size < w2.heap.size := lt_of_cell q0
  clear hx hx2 hx12 hs2
  have HX := Lib.hid hX
  clear hX
  cases rw'
  case true =>
    obtain rfl : rb = 0 := by rw [HRB.out, if_pos rfl]
    go_wp2
    refine bodyPost_ret (v := .tuple #[.int .i64 0, .bool true]) (by simp [results, Try.results30, go_sem]) rfl ⟨rfl, HX.out⟩
  have hE : rb = if q < eye * eye then 225 else if q < bull * bull then 125 else bedOf ⟨eye, bull, rings, lines, nums, wire⟩ ⟨dx, dy⟩ (ringOf ⟨eye, bull, rings, lines, nums, wire⟩ q) := by rw [HRB.out, if_neg (by simp)]
  have HE := Lib.hid hE
  clear hE HRB
  by_cases h1 : q < eye * eye
  · obtain rfl : rb = 225 := by rw [HE.out, if_pos h1]
    go_wp2
    refine bodyPost_ret (v := .tuple #[.int .i64 225, .bool false]) (by simp [results, Try.results30, go_sem]) rfl ⟨rfl, HX.out⟩
  by_cases h2 : q < bull * bull
  · obtain rfl : rb = 125 := by rw [HE.out, if_neg h1, if_pos h2]
    go_wp2
    refine bodyPost_ret (v := .tuple #[.int .i64 125, .bool false]) (by simp [results, Try.results30, go_sem]) rfl ⟨rfl, HX.out⟩
  have hE2 : rb = bedOf ⟨eye, bull, rings, lines, nums, wire⟩ ⟨dx, dy⟩ (ringOf ⟨eye, bull, rings, lines, nums, wire⟩ q) := by rw [HE.out, if_neg h1, if_neg h2]
  have HE2 := Lib.hid hE2
  clear hE2 HE
  go_wp2_with fail
  refine (indexFunc_rb 53 #[.pointer (some ⟨w1.heap.size, 0, none⟩)] enters_bed1 (inRing q) rings ra rc w2 (HB.out.rings.ext HX.out) (by omega) (fun x hx W hW => bed1 x w1.heap.size q W (hW.cell q0) (by have := HG.out.rad x.outer (by simp [Brd.radii]; exact .inr (.inr ⟨x, hx, rfl⟩)); omega))).mono ?_
  rintro e w3 ⟨rfl, hx3⟩
  obtain ⟨i, hi⟩ : ∃ i, idx (inRing q) rings = i := ⟨_, rfl⟩
  have hib := idx_bounds (inRing q) rings
  have hif := idx_find (inRing q) rings
  rw [hi] at hib hif ⊢
  obtain ⟨hib0, hib1⟩ := hib
  have HIF := Lib.hid hif
  have HX3 := Lib.hid (HX.out.trans hx3)
  replace m2 := hx3.cell m2
  replace m3 := hx3.cell m3
  replace m4 := hx3.cell m4
  replace m0 := hx3.cell m0
  replace m1 := hx3.cell m1
  replace m5 := hx3.cell m5
  replace d0 := hx3.cell d0
  replace d1 := hx3.cell d1
  have hs3 := hx3.size
  replace hml : w.heap.size < w3.heap.size := by omega
  replace hdl : w.heap.size + 1 < w3.heap.size := by omega
  clear hx3 hif hi q0 hs3 hql
  by_cases h3 : i < 0
  · have e : rb = 0 := by rw [HE2.out]; unfold ringOf; rw [HIF.out.1 h3]; rfl
    subst e
    go_wp2
    refine bodyPost_ret (v := .tuple #[.int .i64 0, .bool false]) (by simp [results, Try.results30, go_sem]) rfl ⟨rfl, HX3.out⟩
  obtain ⟨k, rfl⟩ : ∃ k : Nat, i = k := ⟨i.toNat, by omega⟩
  obtain ⟨hkl, hfd⟩ := HIF.out.2 k rfl
  obtain ⟨b', o', e', c0, c1⟩ := HB.out.rings k hkl
  have e'' : ra = some ⟨b', o', none⟩ := e'
  clear e'
  subst e''
  replace c1 : w3.cell? ⟨b', o' + k * 2 + 1, none⟩ = some (.int .i64 rings[k].factor) := HX3.out.cell c1
  have hbl := lt_of_cell c1
  simp only at hbl
  obtain ⟨hf0, hf1⟩ := HG.out.fac rings[k] (List.getElem_mem _)
  have hE3 : rb = if rings[k].factor = 0 then 0 else 100 * rings[k].factor + nums.getD sc 0 := by
    rw [HE2.out]; unfold ringOf; show bedOf _ _ (rings.find? (inRing q)) = _; rw [hfd]; simp only [bedOf]; rw [HSC.out]
  have HE3 := Lib.hid hE3
  clear hE3 hfd c0
  generalize rings[k].factor = fa at *
  by_cases h4 : fa = 0
  · subst h4
    have e : rb = 0 := by rw [HE3.out, if_pos rfl]
    subst e
    go_wp2
    refine bodyPost_ret (v := .tuple #[.int .i64 0, .bool false]) (by simp [results, Try.results30, go_sem]) rfl ⟨rfl, HX3.out⟩
  have h4' : (fa == 0) = false := by simpa using h4
  have e : rb = 100 * fa + nums[sc] := by rw [HE3.out, if_neg h4]; simp [List.getD_eq_getElem?_getD, hsl]
  obtain ⟨n0, n1⟩ := HG.out.num nums[sc] (List.getElem_mem _)
  obtain ⟨b2, o2, e2, c2⟩ := HB.out.nums sc hsl
  have e2' : na = some ⟨b2, o2, none⟩ := e2
  clear e2
  subst e2'
  replace c2 : w3.cell? ⟨b2, o2 + sc, none⟩ = some (.int .i64 nums[sc]) := HX3.out.cell c2
  have hbl2 := lt_of_cell c2
  simp only at hbl2
  generalize nums[sc] = nv at *
  subst e
  go_upto_region 11 with fail
  refine wp_region_later (by kernel_rfl) (by kernel_rfl) ?_
  repeat (go_big_quiet_step (with_reducible refine Calls.later (HS.out _ (HX3.out.trans (Later.ext _)))))
  refine wpQuiet_nil ?_
  intro w4 hw4
  obtain ⟨⟨w4, hx4⟩, rfl⟩ := hw4
  go_wp2
  refine bodyPost_ret (v := .tuple #[.int .i64 (100 * fa + nv), .bool false]) (by simp [results, Try.results30, go_sem]) rfl ⟨rfl, HX3.out.trans hx4⟩
end Go.Proofs.Ytpifdeglhalefaa
