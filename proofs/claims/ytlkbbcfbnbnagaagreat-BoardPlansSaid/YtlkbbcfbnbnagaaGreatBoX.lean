/-
  Package board: Turn, Wear, Best, Plan.
-/
import Derived.Test.YtlkbbcfbnbnagaaGreatBoW
namespace Go.Proofs.YtlkbbcfbnbnagaaGreat
open Go.RowKit Go.BigFrame
attribute [local go_sem] Later.cell Later.frozen
def zeroB : Brd := ⟨0, 0, [], [], [], 0⟩
def turnR (b : Brd) (k : Int) : Brd × Int :=
  if errB b ≠ 0 then (zeroB, errB b) else if ins 0 (b.nums.length - 1) [k] = true then (⟨b.eye, b.bull, b.rings, b.lines, turnL b.nums k.toNat, b.wire⟩, 0) else (zeroB, 3)
theorem BrdAt.zero (w : World) : BrdAt w ⟨none, none, none, 0, 0, 0⟩ zeroB := by
  refine ⟨?_, ?_, ?_⟩ <;> exact fun i hi => absurd hi (Nat.not_lt_zero i)
theorem WksAt.one {w : World} {v : Value} {wk : List Int} (h : RdI S0 w v wk) (t : TypeId) {n : Nat} (hn : n = w.heap.size) : WksAt S0 (w.alloc (.cells #[v] t)) (.slice (some ⟨n, 0, none⟩) 1 1) [wk] := by
  subst hn
  obtain ⟨t', ht⟩ := Blk.new w #[v] t
  refine ⟨_, _, rfl, by simp, by decide, fun i hi => ?_⟩
  match i, hi with
  | 0, _ => exact ⟨w.heap.size, 0, _, _, _, v, rfl, id, ht, rfl, h.keep (.of_ext ((Ext.refl w).alloc _))⟩
theorem goodN {b : Brd} (hg : GoodB b) (h0 : longB b = false) : 0 < b.nums.length ∧ b.nums.length ≤ 20 := by
  have := hg.len
  have := hg.ptl
  simp only [longB, Bool.or_eq_false_iff, decide_eq_false_iff_not] at h0
  omega
theorem errB_len {b : Brd} (hs : SmallB b) (h : errB b = 0) : 0 < b.nums.length ∧ b.nums.length ≤ 20 := by
  refine goodN (errB_good hs h) ?_
  unfold errB at h
  cases hl : longB b
  · rfl
  · rw [if_pos hl] at h; cases h
/-- A board whose numbers alone are new. -/
def TurV (v v' : BrdV) (n s : Nat) : Prop := (∀ k o, v'.na = some ⟨k, o, none⟩ → s ≤ k) ∧ v'.ra = v.ra ∧ v'.rc = v.rc ∧ v'.la = v.la ∧ v'.lc = v.lc ∧ v'.na ≠ none ∧ n ≤ v'.nc ∧ v'.nc ≤ maxLen
theorem own_cap {w : World} {base : Nat} {a : Addr} {c : Nat} {l : List Int} (h : OwnI w base (.slice (some a) l.length c) l) : l.length ≤ c ∧ c ≤ maxLen := by
  obtain ⟨h1, ⟨e', h2⟩ | ⟨g, cap, cur, e', h2, h3, h4, h5, h6⟩⟩ := h
  · simp at e'
  · simp only [Value.slice.injEq] at e'
    obtain ⟨-, -, rfl⟩ := e'
    exact ⟨h4, h5⟩
set_option maxHeartbeats 2000000 in
theorem brd_Turn (v : BrdV) (b : Brd) (k : Int) (w : World) (h : BrdAt w v b) (hs : SmallB b) (hc : b.nums.length ≤ v.nc ∧ v.nc ≤ maxLen) :
    Calls Tryz.prog 20 #[.agg (v.cells b), .int .i64 k] w fun e w' => ∃ v', e = .returned (.tuple #[.agg (v'.cells (turnR b k).1), .int .i64 (turnR b k).2]) ∧ BrdAt w' v' (turnR b k).1 ∧ ((turnR b k).2 = 0 → TurV v v' b.nums.length w.heap.size) ∧ Ext w w' := by
  have HO := Lib.hid (fun W (hx : Ext w W) => brd_open v b W (h.ext hx) hs)
  have HI := Lib.hid (fun W => brd_isTurn v b k W hs.n)
  have HB := Lib.hid h
  have HLEN := Lib.hid (errB_len hs)
  obtain ⟨q0, q1, hr⟩ : ∃ q0 q1, turnR b k = (q0, q1) := ⟨_, _, rfl⟩
  have HR := Lib.hid hr
  rw [hr]
  generalize herr : errB b = er at HO HLEN
  have HER := Lib.hid herr
  generalize hpb : ins 0 (b.nums.length - 1) [k] = pb at HI
  have HPB := Lib.hid hpb
  obtain ⟨eye, bull, rings, lines, nums, wire⟩ := b
  obtain ⟨ra, la, na, rc, lc, nc⟩ := v
  unfold BrdV.cells at *
  simp only at HO HI HB HLEN hc hpb HPB ⊢
  obtain ⟨hc1, hc2⟩ := hc
  clear h hs hr herr hpb
  go_enter Tryz.func20, Tryz.ntmps20
  go_wp2_with fail
  refine (HO.out _ (((Ext.refl w).alloc _).alloc _)).mono ?_
  rintro e w1 ⟨rfl, hx1⟩
  have hX1 := (((Ext.refl w).alloc (.cells #[.int .i64 eye, .int .i64 bull, .slice ra rings.length rc, .slice la lines.length lc, .slice na nums.length nc, .int .i64 wire] 26)).alloc (.cells #[.int .i64 0, .int .i64 0, .slice none 0 0, .slice none 0 0, .slice none 0 0, .int .i64 0] 26)).trans hx1
  have hbb : Blk w1 w.heap.size #[.int .i64 eye, .int .i64 bull, .slice ra rings.length rc, .slice la lines.length lc, .slice na nums.length nc, .int .i64 wire] := ((Blk.new _ _ _).alloc _).ext hx1
  have hrb1 : Blk w1 (w.heap.size + 1) #[.int .i64 0, .int .i64 0, .slice none 0 0, .slice none 0 0, .slice none 0 0, .int .i64 0] := (Blk.at _ (by simp)).ext hx1
  have HX1 := Lib.hid hX1
  have HRB := Lib.hid hrb1
  have HBB := Lib.hid hbb
  clear hx1 hX1
  by_cases h0 : er = 0
  case neg =>
    have e : (q0, q1) = (zeroB, er) := by rw [← HR.out]; unfold turnR; rw [HER.out, if_pos h0]
    obtain ⟨rfl, rfl⟩ : q0 = zeroB ∧ q1 = er := by simpa using e
    have h0' : (q1 != 0) = true := by simpa using h0
    have r0 := hrb1.frozen 0
    have r1 := hrb1.frozen 1
    have r2 := hrb1.frozen 2
    have r3 := hrb1.frozen 3
    have r4 := hrb1.frozen 4
    have r5 := hrb1.frozen 5
    have s0 := hrb1.cell 0 (v := .int .i64 0) rfl
    have s1 := hrb1.cell 1 (v := .int .i64 0) rfl
    have s2 := hrb1.cell 2 (v := .slice none 0 0) rfl
    have s3 := hrb1.cell 3 (v := .slice none 0 0) rfl
    have s4 := hrb1.cell 4 (v := .slice none 0 0) rfl
    have s5 := hrb1.cell 5 (v := .int .i64 0) rfl
    have hrl := hrb1.lt
    clear hbb hrb1 e
    go_wp2
    obtain ⟨W2, hW2, hB2, hX2⟩ := set6_pack HX1.out (n := w.heap.size + 1) (by omega) HRB.out (.int .i64 0) (.int .i64 0) (.slice none 0 0) (.slice none 0 0) (.slice none 0 0) (.int .i64 0)
    rw [hW2]
    replace hB2 := hB2.alloc (.cells #[.int .i64 eye, .int .i64 bull, .slice ra rings.length rc, .slice la lines.length lc, .slice na nums.length nc, .int .i64 wire] 74)
    have d0 := hB2.cell 0 (v := .int .i64 0) rfl
    have d1 := hB2.cell 1 (v := .int .i64 0) rfl
    have d2 := hB2.cell 2 (v := .slice none 0 0) rfl
    have d3 := hB2.cell 3 (v := .slice none 0 0) rfl
    have d4 := hB2.cell 4 (v := .slice none 0 0) rfl
    have d5 := hB2.cell 5 (v := .int .i64 0) rfl
    refine bodyPost_ret (v := .tuple #[.agg #[.int .i64 0, .int .i64 0, .slice none 0 0, .slice none 0 0, .slice none 0 0, .int .i64 0], .int .i64 q1]) (by simp [results, Tryz.results20, go_sem, d0, d1, d2, d3, d4, d5]) rfl ⟨⟨none, none, none, 0, 0, 0⟩, rfl, BrdAt.zero _, (fun h => absurd h h0), hX2.alloc _⟩
  subst h0
  have hR0 : (q0, q1) = if pb = true then ((⟨eye, bull, rings, lines, turnL nums k.toNat, wire⟩ : Brd), (0 : Int)) else (zeroB, 3) := by rw [← HR.out]; unfold turnR; rw [HER.out, if_neg (by simp), HPB.out]
  have HR0 := Lib.hid hR0
  have HT1 := Lib.hid (Blk.new w1 #[.int .i64 eye, .int .i64 bull, .slice ra rings.length rc, .slice la lines.length lc, .slice na nums.length nc, .int .i64 wire] 74)
  clear hR0 hbb hrb1
  go_wp2_with fail
  refine (HI.out _).mono ?_
  rintro e w2 ⟨rfl, hx2⟩
  have HX2 := Lib.hid ((HX1.out.alloc (.cells #[.int .i64 eye, .int .i64 bull, .slice ra rings.length rc, .slice la lines.length lc, .slice na nums.length nc, .int .i64 wire] 74)).trans hx2)
  have HR2 := Lib.hid ((HRB.out.alloc (.cells #[.int .i64 eye, .int .i64 bull, .slice ra rings.length rc, .slice la lines.length lc, .slice na nums.length nc, .int .i64 wire] 74)).ext hx2)
  have HB2 := Lib.hid ((HBB.out.alloc (.cells #[.int .i64 eye, .int .i64 bull, .slice ra rings.length rc, .slice la lines.length lc, .slice na nums.length nc, .int .i64 wire] 74)).ext hx2)
  have hrb := HR2.out
  have hbb := HB2.out
  cases pb
  case false =>
    have e := HR0.out
    obtain ⟨rfl, rfl⟩ : q0 = zeroB ∧ q1 = 3 := by simpa using e
    have r0 := hrb.frozen 0
    have r1 := hrb.frozen 1
    have r2 := hrb.frozen 2
    have r3 := hrb.frozen 3
    have r4 := hrb.frozen 4
    have r5 := hrb.frozen 5
    have s0 := hrb.cell 0 (v := .int .i64 0) rfl
    have s1 := hrb.cell 1 (v := .int .i64 0) rfl
    have s2 := hrb.cell 2 (v := .slice none 0 0) rfl
    have s3 := hrb.cell 3 (v := .slice none 0 0) rfl
    have s4 := hrb.cell 4 (v := .slice none 0 0) rfl
    have s5 := hrb.cell 5 (v := .int .i64 0) rfl
    have hrl := hrb.lt
    clear hbb hrb e hx2
    go_wp2
    obtain ⟨W2, hW2, hB2, hX2⟩ := set6_pack HX2.out (n := w.heap.size + 1) (by omega) HR2.out (.int .i64 0) (.int .i64 0) (.slice none 0 0) (.slice none 0 0) (.slice none 0 0) (.int .i64 0)
    rw [hW2]
    have d0 := hB2.cell 0 (v := .int .i64 0) rfl
    have d1 := hB2.cell 1 (v := .int .i64 0) rfl
    have d2 := hB2.cell 2 (v := .slice none 0 0) rfl
    have d3 := hB2.cell 3 (v := .slice none 0 0) rfl
    have d4 := hB2.cell 4 (v := .slice none 0 0) rfl
    have d5 := hB2.cell 5 (v := .int .i64 0) rfl
    refine bodyPost_ret (v := .tuple #[.agg #[.int .i64 0, .int .i64 0, .slice none 0 0, .slice none 0 0, .slice none 0 0, .int .i64 0], .int .i64 3]) (by simp [results, Tryz.results20, go_sem, d0, d1, d2, d3, d4, d5]) rfl ⟨⟨none, none, none, 0, 0, 0⟩, rfl, BrdAt.zero _, (fun h => by cases h), hX2⟩
  have e := HR0.out
  obtain ⟨rfl, rfl⟩ : q0 = ⟨eye, bull, rings, lines, turnL nums k.toNat, wire⟩ ∧ q1 = 0 := by simpa using e
  obtain ⟨hn1, hn2⟩ := HLEN.out (by trivial)
  obtain ⟨hk0, hk1⟩ := ins_one.1 HPB.out
  obtain ⟨j, rfl⟩ : ∃ j : Nat, k = j := ⟨k.toNat, by omega⟩
  have HNA := Lib.hid (HB.out.nums.ext HX2.out)
  obtain ⟨nb, no, hna, -⟩ := HNA.out 0 hn1
  cases hna
  have HTU := Lib.hid (fun W (hx : Ext w2 W) => brd_turned nums nb no nc j W (HNA.out.ext hx) hc1 (by omega) (by omega) hc2)
  have HTL := Lib.hid (turnL_len nums j (by omega))
  obtain ⟨ts, hts⟩ : ∃ ts, turnL nums j = ts := ⟨_, rfl⟩
  have HTS := Lib.hid hts
  rw [hts] at HTU HTL
  clear hts
  have m0 := hbb.cell 0 (v := .int .i64 eye) rfl
  have m1 := hbb.cell 1 (v := .int .i64 bull) rfl
  have m2 := hbb.cell 2 (v := .slice ra rings.length rc) rfl
  have m3 := hbb.cell 3 (v := .slice la lines.length lc) rfl
  have m4 := hbb.cell 4 (v := .slice (some ⟨nb, no, none⟩) nums.length nc) rfl
  have m5 := hbb.cell 5 (v := .int .i64 wire) rfl
  have hml := hbb.lt
  clear hbb hrb e hx2 HI HO HR0 HR
  go_wp2_with fail
  refine (HTU.out _ (Ext.refl w2)).mono ?_
  rintro e w3 ⟨v3, rfl, hO3, hx3⟩
  obtain ⟨g3, c3, rfl, hg3, -⟩ := own_head hO3 (by rw [HTL.out]; omega)
  have HX3 := Lib.hid (HX2.out.trans hx3)
  have HR3 := Lib.hid (HR2.out.ext hx3)
  have HO3 := Lib.hid hO3
  have hbb := HB2.out.ext hx3
  have hrb := HR3.out
  have m0 := hbb.cell 0 (v := .int .i64 eye) rfl
  have m1 := hbb.cell 1 (v := .int .i64 bull) rfl
  have m2 := hbb.cell 2 (v := .slice ra rings.length rc) rfl
  have m3 := hbb.cell 3 (v := .slice la lines.length lc) rfl
  have m4 := hbb.cell 4 (v := .slice (some ⟨nb, no, none⟩) nums.length nc) rfl
  have m5 := hbb.cell 5 (v := .int .i64 wire) rfl
  have hml := hbb.lt
  have r0 := hrb.frozen 0
  have r1 := hrb.frozen 1
  have r2 := hrb.frozen 2
  have r3 := hrb.frozen 3
  have r4 := hrb.frozen 4
  have r5 := hrb.frozen 5
  have s0 := hrb.cell 0 (v := .int .i64 0) rfl
  have s1 := hrb.cell 1 (v := .int .i64 0) rfl
  have s2 := hrb.cell 2 (v := .slice none 0 0) rfl
  have s3 := hrb.cell 3 (v := .slice none 0 0) rfl
  have s4 := hrb.cell 4 (v := .slice none 0 0) rfl
  have s5 := hrb.cell 5 (v := .int .i64 0) rfl
  have hrl := hrb.lt
  have f4 := hbb.frozen 4
  have hne : w.heap.size ≠ w.heap.size + 1 := by omega
  clear hbb hrb hx3 hO3 HTU
  go_wp2
  obtain ⟨W2, hW2, hB2, hX2⟩ := set6_pack (HX3.out.setCell (p := ⟨w.heap.size, 4, none⟩) (Nat.le_refl _) (.slice (some ⟨g3, 0, none⟩) ts.length c3)) (n := w.heap.size + 1) (by omega) (HR3.out.other (a := ⟨w.heap.size, 4, none⟩) (by simp) _) (.int .i64 eye) (.int .i64 bull) (.slice ra rings.length rc) (.slice la lines.length lc) (.slice (some ⟨g3, 0, none⟩) ts.length c3) (.int .i64 wire)
  rw [hW2]
  have hC3 : Chg (fun k => k < w2.heap.size) w3 W2 := by
    rw [← hW2]
    have hr : w.heap.size + 1 < w2.heap.size := HR2.out.lt
    exact (((((((Chg.refl _ w3).setCell (p := ⟨w.heap.size, 4, none⟩) (.inr (show w.heap.size < w2.heap.size by omega)) _).setCell (p := ⟨w.heap.size + 1, 0, none⟩) (.inr hr) _).setCell (p := ⟨w.heap.size + 1, 1, none⟩) (.inr hr) _).setCell (p := ⟨w.heap.size + 1, 2, none⟩) (.inr hr) _).setCell (p := ⟨w.heap.size + 1, 3, none⟩) (.inr hr) _).setCell (p := ⟨w.heap.size + 1, 4, none⟩) (.inr hr) _).setCell (p := ⟨w.heap.size + 1, 5, none⟩) (.inr hr) _
  obtain ⟨na', nc', e4, hcell⟩ := (HO3.out.chg hC3 (fun k hk => by cases hk; exact Nat.not_lt.2 hg3)).cells
  cases e4
  have d0 := hB2.cell 0 (v := .int .i64 eye) rfl
  have d1 := hB2.cell 1 (v := .int .i64 bull) rfl
  have d2 := hB2.cell 2 (v := .slice ra rings.length rc) rfl
  have d3 := hB2.cell 3 (v := .slice la lines.length lc) rfl
  have d4 := hB2.cell 4 (v := .slice (some ⟨g3, 0, none⟩) ts.length c3) rfl
  have d5 := hB2.cell 5 (v := .int .i64 wire) rfl
  rw [HTS.out]
  refine bodyPost_ret (v := .tuple #[.agg #[.int .i64 eye, .int .i64 bull, .slice ra rings.length rc, .slice la lines.length lc, .slice (some ⟨g3, 0, none⟩) ts.length c3, .int .i64 wire], .int .i64 0]) (by simp [results, Tryz.results20, go_sem, d0, d1, d2, d3, d4, d5]) rfl ⟨⟨ra, la, some ⟨g3, 0, none⟩, rc, lc, c3⟩, rfl, ⟨HB.out.rings.ext hX2, HB.out.lines.ext hX2, hcell⟩, ⟨fun k o hk => by cases hk; have := HX2.out.size; omega, rfl, rfl, rfl, rfl, (fun h => by cases h), by have := (own_cap HO3.out).1; rw [HTL.out] at this; exact this, (own_cap HO3.out).2⟩, hX2⟩
def wearR (b : Brd) (worn week : List Int) (k : Int) : List Int × Int :=
  if watB b worn [week] ≠ 0 then ([], watB b worn [week]) else if ins 0 (b.nums.length - 1) [k] = true then
    (if 1000000000 < maxL (afterL worn week k.toNat) then ([], 8) else (afterL worn week k.toNat, 0)) else ([], 3)
structure WatOk (b : Brd) (worn : List Int) (wks : List (List Int)) : Prop where
  err : errB b = 0
  len : worn.length = b.nums.length
  pos : 0 < b.nums.length ∧ b.nums.length ≤ 20
  big : ∀ y ∈ worn, 0 ≤ y ∧ y ≤ 1000000000
  wks : ∀ wk ∈ wks, wk.length = b.nums.length ∧ ∀ y ∈ wk, 0 ≤ y ∧ y ≤ 1000000
theorem ins_all {a b : Int} {l : List Int} (h : ins a b l = true) : ∀ y ∈ l, a ≤ y ∧ y ≤ b := by
  intro y hy
  simp only [ins, Bool.not_eq_true', List.any_eq_false] at h
  have := h y hy
  simp only [out1, Bool.or_eq_true, decide_eq_true_eq] at this
  omega
theorem watB_ok {b : Brd} {worn : List Int} {wks : List (List Int)} (hs : SmallB b) (h : watB b worn wks = 0) : WatOk b worn wks := by
  unfold watB at h
  split at h
  · rename_i hne; exact absurd h hne
  · rename_i hne
    have he : errB b = 0 := by simpa using hne
    unfold formB at h
    split at h
    · cases h
    · rename_i h4
      split at h
      · cases h
      · rename_i h2
        simp only [Bool.or_eq_true, decide_eq_true_eq, List.any_eq_true, not_or, Bool.not_eq_true', not_exists, not_and, Decidable.not_not, Bool.not_eq_false] at h4 h2
        exact ⟨he, h4.1, errB_len hs he, ins_all h2.1, fun wk hw => ⟨h4.2 wk hw, ins_all (h2.2 wk hw)⟩⟩
set_option maxHeartbeats 2000000 in
theorem brd_Wear (v : BrdV) (b : Brd) (worn week : List Int) (wa ka : Option Addr) (wc kc : Nat) (k : Int) (w : World) (h : BrdAt w v b) (hs : SmallB b) (hw : RdI S0 w (.slice wa worn.length wc) worn) (hk : RdI S0 w (.slice ka week.length kc) week) :
    Calls Tryz.prog 21 #[.agg (v.cells b), .slice wa worn.length wc, .slice ka week.length kc, .int .i64 k] w fun e w' => ∃ u, e = .returned (.tuple #[u, .int .i64 (wearR b worn week k).2]) ∧ RdI S0 w' u (wearR b worn week k).1 ∧ Ext w w' := by
  have HO := Lib.hid (fun W (hx : Ext w W) (n : Nat) (hn : n = W.heap.size) => brd_watch v b worn [week] wa (some ⟨n, 0, none⟩) wc 1 (W.alloc (.cells #[.slice ka week.length kc] 24)) (h.ext (hx.alloc _)) hs (hw.keep (.of_ext (hx.alloc _))) (WksAt.one (hk.keep (.of_ext hx)) _ hn) (by simp))
  have HI := Lib.hid (fun W => brd_isTurn v b k W hs.n)
  have HOK := Lib.hid (watB_ok (worn := worn) (wks := [week]) hs)
  have HW := Lib.hid hw
  have HK := Lib.hid hk
  obtain ⟨q0, q1, hr⟩ : ∃ q0 q1, wearR b worn week k = (q0, q1) := ⟨_, _, rfl⟩
  have HR := Lib.hid hr
  rw [hr]
  generalize herr : watB b worn [week] = er at HO HOK
  have HER := Lib.hid herr
  generalize hpb : ins 0 (b.nums.length - 1) [k] = pb at HI
  have HPB := Lib.hid hpb
  obtain ⟨eye, bull, rings, lines, nums, wire⟩ := b
  obtain ⟨ra, la, na, rc, lc, nc⟩ := v
  unfold BrdV.cells at *
  simp only at HO HI hpb HPB ⊢
  clear h hs hw hk hr herr hpb
  go_enter Tryz.func21, Tryz.ntmps21
  go_wp2_with fail
  refine (HO.out (w.alloc (.cells #[.int .i64 eye, .int .i64 bull, .slice ra rings.length rc, .slice la lines.length lc, .slice na nums.length nc, .int .i64 wire] 26)) ((Ext.refl w).alloc _) _ (by simp)).mono ?_
  rintro e w1 ⟨rfl, hx1⟩
  have HX1 := Lib.hid ((((Ext.refl w).alloc (.cells #[.int .i64 eye, .int .i64 bull, .slice ra rings.length rc, .slice la lines.length lc, .slice na nums.length nc, .int .i64 wire] 26)).alloc (.cells #[.slice ka week.length kc] 24)).trans hx1)
  clear hx1
  by_cases h0 : er = 0
  case neg =>
    have e : (q0, q1) = ([], er) := by rw [← HR.out]; unfold wearR; rw [HER.out, if_pos h0]
    obtain ⟨rfl, rfl⟩ : q0 = [] ∧ q1 = er := by simpa using e
    have h0' : (q1 != 0) = true := by simpa using h0
    clear e
    go_wp2
    refine bodyPost_ret (v := .tuple #[.slice none 0 0, .int .i64 q1]) (by simp [results, Tryz.results21, go_sem]) rfl ⟨_, rfl, .inl ⟨rfl, rfl⟩, HX1.out.alloc _⟩
  subst h0
  have hR0 : (q0, q1) = if pb = true then (if 1000000000 < maxL (afterL worn week k.toNat) then (([] : List Int), (8 : Int)) else (afterL worn week k.toNat, 0)) else ([], 3) := by rw [← HR.out]; unfold wearR; rw [HER.out, if_neg (by simp), HPB.out]
  have HR0 := Lib.hid hR0
  clear hR0
  go_wp2_with fail
  refine (HI.out _).mono ?_
  rintro e w2 ⟨rfl, hx2⟩
  have HX2 := Lib.hid ((HX1.out.alloc (.cells #[.int .i64 eye, .int .i64 bull, .slice ra rings.length rc, .slice la lines.length lc, .slice na nums.length nc, .int .i64 wire] 74)).trans hx2)
  clear hx2
  cases pb
  case false =>
    have e := HR0.out
    obtain ⟨rfl, rfl⟩ : q0 = [] ∧ q1 = 3 := by simpa using e
    clear e
    go_wp2
    refine bodyPost_ret (v := .tuple #[.slice none 0 0, .int .i64 3]) (by simp [results, Tryz.results21, go_sem]) rfl ⟨_, rfl, .inl ⟨rfl, rfl⟩, HX2.out⟩
  have hok := HOK.out (by trivial)
  obtain ⟨hk0, hk1⟩ := ins_one.1 HPB.out
  have hlw := hok.len
  have hpos := hok.pos
  obtain ⟨hlk, hbk⟩ := hok.wks week (by simp)
  have hbw := hok.big
  simp only at hlw hpos hlk hk1
  obtain ⟨j, rfl⟩ : ∃ j : Nat, k = j := ⟨k.toNat, by omega⟩
  obtain ⟨wb, wo, wc', ewa, hwc, -⟩ := (HW.out.keep (.of_ext HX2.out)).head (by omega)
  obtain ⟨kb, ko, kc', eka, hkc, hkc1, hkc2⟩ := (HK.out.keep (.of_ext HX2.out)).head (by omega)
  cases ewa
  cases eka
  have HA := Lib.hid (fun W (hx : Ext w2 W) => brd_after worn week wb wo wc kb ko kc j W (hwc.ext hx) (hkc.ext hx) (by omega) hkc1 hkc2 (by omega) (by omega) (fun y hy => by have := hbw y hy; omega) (fun y hy => by have := hbk y hy; omega))
  have hAL : (afterL worn week j).length = nums.length := by rw [afterL_len worn week j (by omega) (by omega)]; omega
  have HAL := Lib.hid hAL
  have HPO := Lib.hid hpos
  rw [Int.toNat_natCast] at HR0
  generalize afterL worn week j = ts at *
  clear hok hlw hpos hlk hbk hbw hwc hkc hkc1 hkc2 hk0 hk1 hAL
  go_wp2_with fail
  refine (HA.out _ (Ext.refl w2)).mono ?_
  rintro e w3 ⟨v3, rfl, hO3, hx3⟩
  have HX3 := Lib.hid (HX2.out.trans hx3)
  have HRD := Lib.hid (RdI.of_own (S := S0) hO3 (fun _ _ => id))
  obtain ⟨g3, o3, c3, rfl, hc3, -⟩ := HRD.out.head (by rw [HAL.out]; exact HPO.out.1)
  have HM := Lib.hid (fun W (hx : Ext w3 W) => max_i ts (some ⟨g3, o3, none⟩) c3 W (hc3.ext hx) (by rw [HAL.out]; exact HPO.out.1) (by rw [HAL.out]; have := HPO.out.2; omega))
  clear hx3 hO3 hc3
  generalize maxL ts = m at *
  go_wp2_with fail
  refine (HM.out _ (Ext.refl w3)).mono ?_
  rintro e w4 ⟨rfl, hx4⟩
  have HX4 := Lib.hid (HX3.out.trans hx4)
  have HRD4 := Lib.hid (HRD.out.keep (.of_ext hx4))
  clear hx4
  by_cases hm : (1000000000 : Int) < m
  · have e := HR0.out
    obtain ⟨rfl, rfl⟩ : q0 = [] ∧ q1 = 8 := by simpa [hm] using e
    clear e
    go_wp2
    refine bodyPost_ret (v := .tuple #[.slice none 0 0, .int .i64 8]) (by simp [results, Tryz.results21, go_sem]) rfl ⟨_, rfl, .inl ⟨rfl, rfl⟩, HX4.out⟩
  · have e := HR0.out
    obtain ⟨rfl, rfl⟩ : q0 = ts ∧ q1 = 0 := by simpa [hm] using e
    clear e
    go_wp2
    refine bodyPost_ret (v := .tuple #[.slice (some ⟨g3, o3, none⟩) q0.length c3, .int .i64 0]) (by simp [results, Tryz.results21, go_sem]) rfl ⟨_, rfl, HRD4.out, HX4.out⟩
def bestP (worn : List Int) (wks : List (List Int)) : List Int × List Int := (bestL (plansL wks [] worn)).getD ([], [])
def bestR (b : Brd) (worn week : List Int) : Int × Int × Int :=
  if watB b worn [week] ≠ 0 then (0, 0, watB b worn [week]) else if 1000000000 < maxL (bestP worn [week]).2 then (0, 0, 8) else ((bestP worn [week]).1.headD 0, maxL (bestP worn [week]).2, 0)
theorem best_fold : ∀ (l : List (List Int × List Int)) (o : Option (List Int × List Int)) (p : List Int × List Int), l.foldl bestStep o = some p → p ∈ l ∨ o = some p
  | [], _, _, h => .inr h
  | q :: l, o, p, h => by
    rcases best_fold l (bestStep o q) p h with h | h
    · exact .inl (List.mem_cons_of_mem _ h)
    · unfold bestStep at h
      split at h
      · cases h; exact .inl (by simp)
      · split at h
        · cases h; exact .inl (by simp)
        · exact .inr h
theorem bestL_mem {l : List (List Int × List Int)} {p : List Int × List Int} (h : bestL l = some p) : p ∈ l := by
  rcases best_fold l none p h with h | h
  · exact h
  · cases h
theorem plansL_turns : ∀ (wks : List (List Int)) (t u : List Int), ∀ p ∈ plansL wks t u, p.1.length = t.length + wks.length
  | [], t, u, p, hp => by simp only [plansL, List.mem_singleton] at hp; subst hp; simp
  | wk :: rest, t, u, p, hp => by
    simp only [plansL, List.mem_flatMap] at hp
    obtain ⟨k, -, hp⟩ := hp
    have := plansL_turns rest _ _ p hp
    rw [this]; simp; omega
set_option maxHeartbeats 2000000 in
theorem brd_Best (v : BrdV) (b : Brd) (worn week : List Int) (wa ka : Option Addr) (wc kc : Nat) (w : World) (h : BrdAt w v b) (hs : SmallB b) (hw : RdI S0 w (.slice wa worn.length wc) worn) (hk : RdI S0 w (.slice ka week.length kc) week) :
    Calls Tryz.prog 22 #[.agg (v.cells b), .slice wa worn.length wc, .slice ka week.length kc] w fun e w' => e = .returned (.tuple #[.int .i64 (bestR b worn week).1, .int .i64 (bestR b worn week).2.1, .int .i64 (bestR b worn week).2.2]) ∧ Ext w w' := by
  have HO := Lib.hid (fun W (hx : Ext w W) (n : Nat) (hn : n = W.heap.size) => brd_watch v b worn [week] wa (some ⟨n, 0, none⟩) wc 1 (W.alloc (.cells #[.slice ka week.length kc] 24)) (h.ext (hx.alloc _)) hs (hw.keep (.of_ext (hx.alloc _))) (WksAt.one (hk.keep (.of_ext hx)) _ hn) (by simp))
  have HOK := Lib.hid (watB_ok (worn := worn) (wks := [week]) hs)
  have HW := Lib.hid hw
  have HK := Lib.hid hk
  obtain ⟨q0, q1, q2, hr⟩ : ∃ q0 q1 q2, bestR b worn week = (q0, q1, q2) := ⟨_, _, _, rfl⟩
  have HR := Lib.hid hr
  rw [hr]
  generalize herr : watB b worn [week] = er at HO HOK
  have HER := Lib.hid herr
  obtain ⟨eye, bull, rings, lines, nums, wire⟩ := b
  obtain ⟨ra, la, na, rc, lc, nc⟩ := v
  unfold BrdV.cells at *
  simp only at HO ⊢
  clear h hs hw hk hr herr
  go_enter Tryz.func22, Tryz.ntmps22
  go_wp2_with fail
  refine (HO.out (w.alloc (.cells #[.int .i64 eye, .int .i64 bull, .slice ra rings.length rc, .slice la lines.length lc, .slice na nums.length nc, .int .i64 wire] 26)) ((Ext.refl w).alloc _) _ (by simp)).mono ?_
  rintro e w1 ⟨rfl, hx1⟩
  have HX1 := Lib.hid ((((Ext.refl w).alloc (.cells #[.int .i64 eye, .int .i64 bull, .slice ra rings.length rc, .slice la lines.length lc, .slice na nums.length nc, .int .i64 wire] 26)).alloc (.cells #[.slice ka week.length kc] 24)).trans hx1)
  clear hx1
  by_cases h0 : er = 0
  case neg =>
    have e : (q0, q1, q2) = ((0 : Int), (0 : Int), er) := by rw [← HR.out]; unfold bestR; rw [HER.out, if_pos h0]
    obtain ⟨rfl, rfl, rfl⟩ : q0 = 0 ∧ q1 = 0 ∧ q2 = er := by simpa using e
    have h0' : (q2 != 0) = true := by simpa using h0
    clear e
    go_wp2
    refine bodyPost_ret (v := .tuple #[.int .i64 0, .int .i64 0, .int .i64 q2]) (by simp [results, Tryz.results22, go_sem]) rfl ⟨rfl, HX1.out.alloc _⟩
  subst h0
  have hR0 : (q0, q1, q2) = if 1000000000 < maxL (bestP worn [week]).2 then ((0 : Int), (0 : Int), (8 : Int)) else ((bestP worn [week]).1.headD 0, maxL (bestP worn [week]).2, 0) := by rw [← HR.out]; unfold bestR; rw [HER.out, if_neg (by simp)]
  have HR0 := Lib.hid hR0
  clear hR0
  have hok := HOK.out (by trivial)
  have hlw := hok.len
  have hpos := hok.pos
  have hwks := hok.wks
  have hbw := hok.big
  simp only at hlw hpos hwks
  have HB := Lib.hid (fun W (hx : Ext w1 W) (n : Nat) (hn : n = W.heap.size) => brd_best nums.length worn [week] wa (some ⟨n, 0, none⟩) wc 1 (W.alloc (.cells #[.slice ka week.length kc] 24)) (by omega) (HW.out.keep (.of_ext ((HX1.out.trans hx).alloc _))) hlw (by simp) (fun y hy => by have := hbw y hy; simp; omega) (fun wk hwk => ⟨(hwks wk hwk).1, fun y hy => by have := (hwks wk hwk).2 y hy; omega⟩) (WksAt.one (HK.out.keep (.of_ext (HX1.out.trans hx))) _ hn))
  have HPO := Lib.hid hpos
  clear hok hlw hpos hwks hbw
  go_wp2_with fail
  refine (HB.out _ ((Ext.refl w1).alloc _) _ (by simp)).mono ?_
  rintro e w2 ⟨t2, u2, p, rfl, hp, ht2, hu2, hpl, hx2⟩
  have hbp : bestP worn [week] = p := by unfold bestP; rw [hp]; rfl
  have htn : p.1.length = 1 := plansL_turns [week] [] worn p (bestL_mem hp)
  rw [hbp] at HR0
  have HX2 := Lib.hid (((HX1.out.alloc (.cells #[.int .i64 eye, .int .i64 bull, .slice ra rings.length rc, .slice la lines.length lc, .slice na nums.length nc, .int .i64 wire] 74)).alloc (.cells #[.slice ka week.length kc] 24)).trans hx2)
  obtain ⟨tb, tq, tc, rfl, htx, -⟩ := ht2.head (by omega)
  obtain ⟨ub, uo, uc, rfl, hux, -⟩ := hu2.head (by rw [hpl]; exact HPO.out.1)
  have htx0 := htx 0 (by omega)
  obtain ⟨tb', tq', e, ht0⟩ := htx0
  cases e
  rw [Nat.add_zero] at ht0
  have hhd : p.1.headD 0 = p.1[0] := by
    obtain ⟨p1, p2⟩ := p
    cases p1 with
    | nil => cases htn
    | cons a l => rfl
  rw [hhd] at HR0
  rw [htn, hpl]
  generalize p.1[0] = x0 at *
  have HM := Lib.hid (fun W (hx : Ext w2 W) => by have := brd_most (.slice (some ⟨tb, tq, none⟩) 1 tc) p.2 (some ⟨ub, uo, none⟩) uc W (hux.ext hx) (by rw [hpl]; exact HPO.out.1) (by rw [hpl]; have := HPO.out.2; omega); rwa [hpl] at this)
  generalize maxL p.2 = m at *
  clear hp ht2 hu2 hx2 hbp htn htx hux hhd hpl
  have hB0 : Blk (w2.alloc (.cells #[.slice (some ⟨tb, tq, none⟩) 1 tc, .slice (some ⟨ub, uo, none⟩) nums.length uc] 78)) w2.heap.size #[.slice (some ⟨tb, tq, none⟩) 1 tc, .slice (some ⟨ub, uo, none⟩) nums.length uc] := Blk.new _ _ _
  have HB0 := Lib.hid hB0
  clear hB0
  go_wp2_with fail
  refine (HM.out _ ((Ext.refl w2).alloc _)).mono ?_
  rintro e w3 ⟨rfl, hx3⟩
  have HX3 := Lib.hid ((HX2.out.alloc (.cells #[.slice (some ⟨tb, tq, none⟩) 1 tc, .slice (some ⟨ub, uo, none⟩) nums.length uc] 78)).trans hx3)
  have HM3 := Lib.hid (fun W (h : Ext w3 W) => HM.out W ((((Ext.refl w2).alloc _).trans hx3).trans h))
  replace ht0 := (((Ext.refl w2).alloc _).trans hx3).cell ht0
  have b0 := (HB0.out.ext hx3).cell 0 (v := .slice (some ⟨tb, tq, none⟩) 1 tc) rfl
  have b1 := (HB0.out.ext hx3).cell 1 (v := .slice (some ⟨ub, uo, none⟩) nums.length uc) rfl
  have hbl := (HB0.out.ext hx3).lt
  have htl := lt_of_cell ht0
  simp only at htl
  clear hx3
  by_cases hm : (1000000000 : Int) < m
  · have e := HR0.out
    obtain ⟨rfl, rfl, rfl⟩ : q0 = 0 ∧ q1 = 0 ∧ q2 = 8 := by simpa [hm] using e
    clear e
    go_wp2
    refine bodyPost_ret (v := .tuple #[.int .i64 0, .int .i64 0, .int .i64 8]) (by simp [results, Tryz.results22, go_sem]) rfl ⟨rfl, HX3.out⟩
  · have e := HR0.out
    obtain ⟨rfl, rfl, rfl⟩ : q0 = x0 ∧ q1 = m ∧ q2 = 0 := by simpa [hm] using e
    clear e
    go_upto_region 7 with fail
    refine wp_region_later (by kernel_rfl) (by kernel_rfl) ?_
    repeat (go_big_quiet_step (refine Calls.later (HM3.out _ (Later.ext _))))
    refine wpQuiet_nil ?_
    intro w4 hw4
    obtain ⟨⟨w4, hx4⟩, rfl⟩ := hw4
    go_wp2
    refine bodyPost_ret (v := .tuple #[.int .i64 q0, .int .i64 q1, .int .i64 0]) (by simp [results, Tryz.results22, go_sem]) rfl ⟨rfl, HX3.out.trans hx4⟩
end Go.Proofs.YtlkbbcfbnbnagaaGreat
