/-
  Package board: Turn.
-/
import Derived.Test.YtpifdeglhalefaaBoN
import Derived.Test.YtpifdeglhalefaaBoL
namespace Go.Proofs.Ytpifdeglhalefaa
open Go.RowKit Go.BigFrame
attribute [local go_sem] Later.cell Later.frozen
def zeroB : Brd := ⟨0, 0, [], [], [], 0⟩
def turnR (b : Brd) (k : Int) : Brd × Int :=
  if errB b ≠ 0 then (zeroB, errB b) else if ins 0 (b.nums.length - 1) [k] = true then (⟨b.eye, b.bull, b.rings, b.lines, turnL b.nums k.toNat, b.wire⟩, 0) else (zeroB, 3)
theorem BrdAt.zero (w : World) : BrdAt w ⟨none, none, none, 0, 0, 0⟩ zeroB := by
  refine ⟨?_, ?_, ?_⟩ <;> exact fun i hi => absurd hi (Nat.not_lt_zero i)
theorem set6_pack {w W : World} (hx : Ext w W) {n : Nat} (hn : w.heap.size ≤ n) {a0 a1 a2 a3 a4 a5 : Value} (h : Blk W n #[a0, a1, a2, a3, a4, a5]) (v0 v1 v2 v3 v4 v5 : Value) :
    ∃ W2, ((((((W.setCell ⟨n, 0, none⟩ v0).setCell ⟨n, 1, none⟩ v1).setCell ⟨n, 2, none⟩ v2).setCell ⟨n, 3, none⟩ v3).setCell ⟨n, 4, none⟩ v4).setCell ⟨n, 5, none⟩ v5) = W2 ∧ Blk W2 n #[v0, v1, v2, v3, v4, v5] ∧ Ext w W2 :=
  ⟨_, rfl, blk_set6 h .., (((((hx.setCell (p := ⟨n, 0, none⟩) hn v0).setCell (p := ⟨n, 1, none⟩) hn v1).setCell (p := ⟨n, 2, none⟩) hn v2).setCell (p := ⟨n, 3, none⟩) hn v3).setCell (p := ⟨n, 4, none⟩) hn v4).setCell (p := ⟨n, 5, none⟩) hn v5⟩
theorem goodN {b : Brd} (hg : GoodB b) (h0 : longB b = false) : 0 < b.nums.length ∧ b.nums.length ≤ 20 := by
  have := hg.len
  have := hg.ptl
  simp only [longB, Bool.or_eq_false_iff, decide_eq_false_iff_not] at h0
  omega
theorem errB_len {b : Brd} (hs : SmallB b) (h : errB b = 0) : 0 < b.nums.length ∧ b.nums.length ≤ 20 := by
  refine goodN (errB_good hs h) ?_
  unfold errB at h
  cases hl : longB b
  · rfl
  · rw [if_pos hl] at h; cases h
/-- A board whose numbers alone are new. -/
def TurV (v v' : BrdV) (n s : Nat) : Prop := (∀ k o, v'.na = some ⟨k, o, none⟩ → s ≤ k) ∧ v'.ra = v.ra ∧ v'.rc = v.rc ∧ v'.la = v.la ∧ v'.lc = v.lc ∧ v'.na ≠ none ∧ n ≤ v'.nc ∧ v'.nc ≤ maxLen
theorem own_cap {w : World} {base : Nat} {a : Addr} {c : Nat} {l : List Int} (h : OwnI w base (.slice (some a) l.length c) l) : l.length ≤ c ∧ c ≤ maxLen := by
  obtain ⟨h1, ⟨e', h2⟩ | ⟨g, cap, cur, e', h2, h3, h4, h5, h6⟩⟩ := h
  · simp at e'
  · simp only [Value.slice.injEq] at e'
    obtain ⟨-, -, rfl⟩ := e'
    exact ⟨h4, h5⟩
set_option maxHeartbeats 2000000 in
theorem brd_Turn (v : BrdV) (b : Brd) (k : Int) (w : World) (h : BrdAt w v b) (hs : SmallB b) (hc : b.nums.length ≤ v.nc ∧ v.nc ≤ maxLen) :
    Calls Try.prog 7 #[.agg (v.cells b), .int .i64 k] w fun e w' => ∃ v', e = .returned (.tuple #[.agg (v'.cells (turnR b k).1), .int .i64 (turnR b k).2]) ∧ BrdAt w' v' (turnR b k).1 ∧ ((turnR b k).2 = 0 → TurV v v' b.nums.length w.heap.size) ∧ Ext w w' := by
  have HO := Lib.hid (fun W (hx : Ext w W) => brd_open v b W (h.ext hx) hs)
  have HI := Lib.hid (fun W => brd_isTurn v b k W hs.n)
  have HB := Lib.hid h
  have HLEN := Lib.hid (errB_len hs)
  obtain ⟨q0, q1, hr⟩ : ∃ q0 q1, turnR b k = (q0, q1) := ⟨_, _, rfl⟩
  have HR := Lib.hid hr
  rw [hr]
  generalize herr : errB b = er at HO HLEN
  have HER := Lib.hid herr
  generalize hpb : ins 0 (b.nums.length - 1) [k] = pb at HI
  have HPB := Lib.hid hpb
  obtain ⟨eye, bull, rings, lines, nums, wire⟩ := b
  obtain ⟨ra, la, na, rc, lc, nc⟩ := v
  unfold BrdV.cells at *
  simp only at HO HI HB HLEN hc hpb HPB ⊢
  obtain ⟨hc1, hc2⟩ := hc
  clear h hs hr herr hpb
  go_enter Try.func7, Try.ntmps7
  go_wp2_with fail
  refine (HO.out _ (((Ext.refl w).alloc _).alloc _)).mono ?_
  rintro e w1 ⟨rfl, hx1⟩
  have hX1 := (((Ext.refl w).alloc (.cells #[.int .i64 eye, .int .i64 bull, .slice ra rings.length rc, .slice la lines.length lc, .slice na nums.length nc, .int .i64 wire] 27)).alloc (.cells #[.int .i64 0, .int .i64 0, .slice none 0 0, .slice none 0 0, .slice none 0 0, .int .i64 0] 27)).trans hx1
  have hbb : Blk w1 w.heap.size #[.int .i64 eye, .int .i64 bull, .slice ra rings.length rc, .slice la lines.length lc, .slice na nums.length nc, .int .i64 wire] := ((Blk.new _ _ _).alloc _).ext hx1
  have hrb1 : Blk w1 (w.heap.size + 1) #[.int .i64 0, .int .i64 0, .slice none 0 0, .slice none 0 0, .slice none 0 0, .int .i64 0] := (Blk.at _ (by simp)).ext hx1
  have HX1 := Lib.hid hX1
  have HRB := Lib.hid hrb1
  have HBB := Lib.hid hbb
  clear hx1 hX1
  by_cases h0 : er = 0
  case neg =>
    have e : (q0, q1) = (zeroB, er) := by rw [← HR.out]; unfold turnR; rw [HER.out, if_pos h0]
    obtain ⟨rfl, rfl⟩ : q0 = zeroB ∧ q1 = er := by simpa using e
    have h0' : (q1 != 0) = true := by simpa using h0
    have r0 := hrb1.frozen 0
    have r1 := hrb1.frozen 1
    have r2 := hrb1.frozen 2
    have r3 := hrb1.frozen 3
    have r4 := hrb1.frozen 4
    have r5 := hrb1.frozen 5
    have s0 := hrb1.cell 0 (v := .int .i64 0) rfl
    have s1 := hrb1.cell 1 (v := .int .i64 0) rfl
    have s2 := hrb1.cell 2 (v := .slice none 0 0) rfl
    have s3 := hrb1.cell 3 (v := .slice none 0 0) rfl
    have s4 := hrb1.cell 4 (v := .slice none 0 0) rfl
    have s5 := hrb1.cell 5 (v := .int .i64 0) rfl
    have hrl := hrb1.lt
    clear hbb hrb1 e
    go_wp2
    obtain ⟨W2, hW2, hB2, hX2⟩ := set6_pack HX1.out (n := w.heap.size + 1) (by omega) HRB.out (.int .i64 0) (.int .i64 0) (.slice none 0 0) (.slice none 0 0) (.slice none 0 0) (.int .i64 0)
    rw [hW2]
    replace hB2 := hB2.alloc (.cells #[.int .i64 eye, .int .i64 bull, .slice ra rings.length rc, .slice la lines.length lc, .slice na nums.length nc, .int .i64 wire] 90)
    have d0 := hB2.cell 0 (v := .int .i64 0) rfl
    have d1 := hB2.cell 1 (v := .int .i64 0) rfl
    have d2 := hB2.cell 2 (v := .slice none 0 0) rfl
    have d3 := hB2.cell 3 (v := .slice none 0 0) rfl
    have d4 := hB2.cell 4 (v := .slice none 0 0) rfl
    have d5 := hB2.cell 5 (v := .int .i64 0) rfl
    refine bodyPost_ret (v := .tuple #[.agg #[.int .i64 0, .int .i64 0, .slice none 0 0, .slice none 0 0, .slice none 0 0, .int .i64 0], .int .i64 q1]) (by simp [results, Try.results7, go_sem, d0, d1, d2, d3, d4, d5]) rfl ⟨⟨none, none, none, 0, 0, 0⟩, rfl, BrdAt.zero _, (fun h => absurd h h0), hX2.alloc _⟩
  subst h0
  have hR0 : (q0, q1) = if pb = true then ((⟨eye, bull, rings, lines, turnL nums k.toNat, wire⟩ : Brd), (0 : Int)) else (zeroB, 3) := by rw [← HR.out]; unfold turnR; rw [HER.out, if_neg (by simp), HPB.out]
  have HR0 := Lib.hid hR0
  have HT1 := Lib.hid (Blk.new w1 #[.int .i64 eye, .int .i64 bull, .slice ra rings.length rc, .slice la lines.length lc, .slice na nums.length nc, .int .i64 wire] 90)
  clear hR0 hbb hrb1
  go_wp2_with fail
  refine (HI.out _).mono ?_
  rintro e w2 ⟨rfl, hx2⟩
  have HX2 := Lib.hid ((HX1.out.alloc (.cells #[.int .i64 eye, .int .i64 bull, .slice ra rings.length rc, .slice la lines.length lc, .slice na nums.length nc, .int .i64 wire] 90)).trans hx2)
  have HR2 := Lib.hid ((HRB.out.alloc (.cells #[.int .i64 eye, .int .i64 bull, .slice ra rings.length rc, .slice la lines.length lc, .slice na nums.length nc, .int .i64 wire] 90)).ext hx2)
  have HB2 := Lib.hid ((HBB.out.alloc (.cells #[.int .i64 eye, .int .i64 bull, .slice ra rings.length rc, .slice la lines.length lc, .slice na nums.length nc, .int .i64 wire] 90)).ext hx2)
  have hrb := HR2.out
  have hbb := HB2.out
  cases pb
  case false =>
    have e := HR0.out
    obtain ⟨rfl, rfl⟩ : q0 = zeroB ∧ q1 = 3 := by simpa using e
    have r0 := hrb.frozen 0
    have r1 := hrb.frozen 1
    have r2 := hrb.frozen 2
    have r3 := hrb.frozen 3
    have r4 := hrb.frozen 4
    have r5 := hrb.frozen 5
    have s0 := hrb.cell 0 (v := .int .i64 0) rfl
    have s1 := hrb.cell 1 (v := .int .i64 0) rfl
    have s2 := hrb.cell 2 (v := .slice none 0 0) rfl
    have s3 := hrb.cell 3 (v := .slice none 0 0) rfl
    have s4 := hrb.cell 4 (v := .slice none 0 0) rfl
    have s5 := hrb.cell 5 (v := .int .i64 0) rfl
    have hrl := hrb.lt
    clear hbb hrb e hx2
    go_wp2
    obtain ⟨W2, hW2, hB2, hX2⟩ := set6_pack HX2.out (n := w.heap.size + 1) (by omega) HR2.out (.int .i64 0) (.int .i64 0) (.slice none 0 0) (.slice none 0 0) (.slice none 0 0) (.int .i64 0)
    rw [hW2]
    have d0 := hB2.cell 0 (v := .int .i64 0) rfl
    have d1 := hB2.cell 1 (v := .int .i64 0) rfl
    have d2 := hB2.cell 2 (v := .slice none 0 0) rfl
    have d3 := hB2.cell 3 (v := .slice none 0 0) rfl
    have d4 := hB2.cell 4 (v := .slice none 0 0) rfl
    have d5 := hB2.cell 5 (v := .int .i64 0) rfl
    refine bodyPost_ret (v := .tuple #[.agg #[.int .i64 0, .int .i64 0, .slice none 0 0, .slice none 0 0, .slice none 0 0, .int .i64 0], .int .i64 3]) (by simp [results, Try.results7, go_sem, d0, d1, d2, d3, d4, d5]) rfl ⟨⟨none, none, none, 0, 0, 0⟩, rfl, BrdAt.zero _, (fun h => by cases h), hX2⟩
  have e := HR0.out
  obtain ⟨rfl, rfl⟩ : q0 = ⟨eye, bull, rings, lines, turnL nums k.toNat, wire⟩ ∧ q1 = 0 := by simpa using e
  obtain ⟨hn1, hn2⟩ := HLEN.out (by trivial)
  obtain ⟨hk0, hk1⟩ := ins_one.1 HPB.out
  obtain ⟨j, rfl⟩ : ∃ j : Nat, k = j := ⟨k.toNat, by omega⟩
  have HNA := Lib.hid (HB.out.nums.ext HX2.out)
  obtain ⟨nb, no, hna, -⟩ := HNA.out 0 hn1
  cases hna
  have HTU := Lib.hid (fun W (hx : Ext w2 W) => brd_turned nums nb no nc j W (HNA.out.ext hx) hc1 (by omega) (by omega) hc2)
  have HTL := Lib.hid (turnL_len nums j (by omega))
  obtain ⟨ts, hts⟩ : ∃ ts, turnL nums j = ts := ⟨_, rfl⟩
  have HTS := Lib.hid hts
  rw [hts] at HTU HTL
  clear hts
  have m0 := hbb.cell 0 (v := .int .i64 eye) rfl
  have m1 := hbb.cell 1 (v := .int .i64 bull) rfl
  have m2 := hbb.cell 2 (v := .slice ra rings.length rc) rfl
  have m3 := hbb.cell 3 (v := .slice la lines.length lc) rfl
  have m4 := hbb.cell 4 (v := .slice (some ⟨nb, no, none⟩) nums.length nc) rfl
  have m5 := hbb.cell 5 (v := .int .i64 wire) rfl
  have hml := hbb.lt
  clear hbb hrb e hx2 HI HO HR0 HR
  go_wp2_with fail
  refine (HTU.out _ (Ext.refl w2)).mono ?_
  rintro e w3 ⟨v3, rfl, hO3, hx3⟩
  obtain ⟨g3, c3, rfl, hg3, -⟩ := own_head hO3 (by rw [HTL.out]; omega)
  have HX3 := Lib.hid (HX2.out.trans hx3)
  have HR3 := Lib.hid (HR2.out.ext hx3)
  have HO3 := Lib.hid hO3
  have hbb := HB2.out.ext hx3
  have hrb := HR3.out
  have m0 := hbb.cell 0 (v := .int .i64 eye) rfl
  have m1 := hbb.cell 1 (v := .int .i64 bull) rfl
  have m2 := hbb.cell 2 (v := .slice ra rings.length rc) rfl
  have m3 := hbb.cell 3 (v := .slice la lines.length lc) rfl
  have m4 := hbb.cell 4 (v := .slice (some ⟨nb, no, none⟩) nums.length nc) rfl
  have m5 := hbb.cell 5 (v := .int .i64 wire) rfl
  have hml := hbb.lt
  have r0 := hrb.frozen 0
  have r1 := hrb.frozen 1
  have r2 := hrb.frozen 2
  have r3 := hrb.frozen 3
  have r4 := hrb.frozen 4
  have r5 := hrb.frozen 5
  have s0 := hrb.cell 0 (v := .int .i64 0) rfl
  have s1 := hrb.cell 1 (v := .int .i64 0) rfl
  have s2 := hrb.cell 2 (v := .slice none 0 0) rfl
  have s3 := hrb.cell 3 (v := .slice none 0 0) rfl
  have s4 := hrb.cell 4 (v := .slice none 0 0) rfl
  have s5 := hrb.cell 5 (v := .int .i64 0) rfl
  have hrl := hrb.lt
  have f4 := hbb.frozen 4
  have hne : w.heap.size ≠ w.heap.size + 1 := by omega
  clear hbb hrb hx3 hO3 HTU
  go_wp2
  obtain ⟨W2, hW2, hB2, hX2⟩ := set6_pack (HX3.out.setCell (p := ⟨w.heap.size, 4, none⟩) (Nat.le_refl _) (.slice (some ⟨g3, 0, none⟩) ts.length c3)) (n := w.heap.size + 1) (by omega) (HR3.out.other (a := ⟨w.heap.size, 4, none⟩) (by simp) _) (.int .i64 eye) (.int .i64 bull) (.slice ra rings.length rc) (.slice la lines.length lc) (.slice (some ⟨g3, 0, none⟩) ts.length c3) (.int .i64 wire)
  rw [hW2]
  have hC3 : Chg (fun k => k < w2.heap.size) w3 W2 := by
    rw [← hW2]
    have hr : w.heap.size + 1 < w2.heap.size := HR2.out.lt
    exact (((((((Chg.refl _ w3).setCell (p := ⟨w.heap.size, 4, none⟩) (.inr (show w.heap.size < w2.heap.size by omega)) _).setCell (p := ⟨w.heap.size + 1, 0, none⟩) (.inr hr) _).setCell (p := ⟨w.heap.size + 1, 1, none⟩) (.inr hr) _).setCell (p := ⟨w.heap.size + 1, 2, none⟩) (.inr hr) _).setCell (p := ⟨w.heap.size + 1, 3, none⟩) (.inr hr) _).setCell (p := ⟨w.heap.size + 1, 4, none⟩) (.inr hr) _).setCell (p := ⟨w.heap.size + 1, 5, none⟩) (.inr hr) _
  obtain ⟨na', nc', e4, hcell⟩ := (HO3.out.chg hC3 (fun k hk => by cases hk; exact Nat.not_lt.2 hg3)).cells
  cases e4
  have d0 := hB2.cell 0 (v := .int .i64 eye) rfl
  have d1 := hB2.cell 1 (v := .int .i64 bull) rfl
  have d2 := hB2.cell 2 (v := .slice ra rings.length rc) rfl
  have d3 := hB2.cell 3 (v := .slice la lines.length lc) rfl
  have d4 := hB2.cell 4 (v := .slice (some ⟨g3, 0, none⟩) ts.length c3) rfl
  have d5 := hB2.cell 5 (v := .int .i64 wire) rfl
  rw [HTS.out]
  refine bodyPost_ret (v := .tuple #[.agg #[.int .i64 eye, .int .i64 bull, .slice ra rings.length rc, .slice la lines.length lc, .slice (some ⟨g3, 0, none⟩) ts.length c3, .int .i64 wire], .int .i64 0]) (by simp [results, Try.results7, go_sem, d0, d1, d2, d3, d4, d5]) rfl ⟨⟨ra, la, some ⟨g3, 0, none⟩, rc, lc, c3⟩, rfl, ⟨HB.out.rings.ext hX2, HB.out.lines.ext hX2, hcell⟩, ⟨fun k o hk => by cases hk; have := HX2.out.size; omega, rfl, rfl, rfl, rfl, (fun h => by cases h), by have := (own_cap HO3.out).1; rw [HTL.out] at this; exact this, (own_cap HO3.out).2⟩, hX2⟩
end Go.Proofs.Ytpifdeglhalefaa
