/-
  The statements of chapter 6: known.
-/
import Derived.Test.YtmopadnkjlodnaaMtd
import Derived.Test.YtmopadnkjlodnaaMsh
import Derived.Test.YtmopadnkjlodnaaPlc
namespace Go.Proofs.Ytmopadnkjlodnaa
def bedsK : List Int := [101, 120, 201, 220, 320]
def legK1 : Leg := ⟨101, 0, 1, bedsK, [61, 0, 40], true⟩
def legK2 : Leg := ⟨101, 0, 1, bedsK, [61, 41], true⟩
theorem known_v : vstF legK1 = ([⟨3, 3, 0, 1, true⟩, ⟨1, 3, 1, 3, true⟩, ⟨1, 3, 1, 3, true⟩], 0, 0) := by kernel_rfl
theorem known_w : vstF legK2 = ([], 1, 7) := by kernel_rfl
def totK : Tot := ⟨1, 1, 3, 101, ⟨5, 9⟩, ⟨2, 7⟩, 0, 0, 0, 40⟩
theorem known_t : ofS 100 [legK1] = (totK, 0, 0) := by kernel_rfl
theorem known_a : avgS totK = (⟨⟨101, 3⟩, ⟨303, 5⟩⟩, 0) := by kernel_rfl
theorem known_r : ratS totK = (⟨⟨1, 7⟩, ⟨1, 2⟩⟩, 0) := by kernel_rfl
theorem known_s : shwS legK1 1 = ([[0, 101, 320], [320], [220]], 0, 0) := by kernel_rfl
theorem known_x : exaF 101 0 1 bedsK [[320, 101, 0], [320], [0, 220]] = .inl ⟨⟨1, 1, 3, 101, ⟨6, 6⟩, ⟨4, 4⟩, 0, 0, 0, 40⟩, 0, true, [61, 0, 40], true⟩ := by kernel_rfl
theorem known_b : betR ⟨⟨20, 1⟩, ⟨30, 1⟩⟩ ⟨⟨10, 1⟩, ⟨19, 1⟩⟩ = .tuple #[.bool true, .bool true, .int .i64 0] := by kernel_rfl
end Go.Proofs.Ytmopadnkjlodnaa
namespace Go.Proofs.Ytmopadnkjlodnaa
open Go.RowKit Go.BigFrame
attribute [local go_sem] Later.cell Later.frozen
theorem rd_blk {w : World} {k : Nat} {xs : List Int} {cs : Array Value} (hb : Blk w k cs) (hc : cs.toList = xs.map (Value.int .i64)) (hl : xs.length ≤ 1000) : RdI S0 w (.slice (some ⟨k, 0, none⟩) xs.length xs.length) xs := by
  obtain ⟨t, ht⟩ := hb
  refine .inr ⟨k, 0, xs.length, cs, t, (0, 0), rfl, Nat.le_refl _, by unfold maxLen; omega, id, ht, fun i hi => ?_⟩
  have : cs.toList[i]? = (xs.map (Value.int .i64))[i]? := by rw [hc]
  rw [Nat.zero_add, ← Array.getElem?_toList, this]
  simp [hi]
theorem RdI.chgB {S : Nat → Prop} {A B : World} {k o n c : Nat} {xs : List Int} (h : RdI S0 A (.slice (some ⟨k, o, none⟩) n c) xs) (hc : Chg S A B) (hb : ¬ S k) : RdI S0 B (.slice (some ⟨k, o, none⟩) n c) xs := by
  rcases h with ⟨h, -⟩ | ⟨b, o', c', cs, t, f, h1, h2, h3, h4, h5, h6⟩
  · cases h
  · cases h1
    exact .inr ⟨k, o, c, cs, t, f, rfl, h2, h3, h4, hc.heap h5 hb, h6⟩
theorem law_laws (w : World) : Calls Try.prog 45 #[] w fun e w' => e = .returned (.agg #[.int .i64 101, .int .i64 0, .int .i64 1]) ∧ Ext w w' := by
  go_enter Try.func45, Try.ntmps45
  go_wp2
  refine bodyPost_ret (v := .agg #[.int .i64 101, .int .i64 0, .int .i64 1]) (by simp [results, Try.results45, go_sem]) rfl ⟨rfl, (Ext.refl w).alloc _⟩
theorem law_beds (w : World) : Calls Try.prog 46 #[] w fun e w' => ∃ k, e = .returned (.slice (some ⟨k, 0, none⟩) 5 5) ∧ w.heap.size ≤ k ∧ RdI S0 w' (.slice (some ⟨k, 0, none⟩) 5 5) bedsK ∧ Ext w w' := by
  go_enter Try.func46, Try.ntmps46
  go_wp2
  refine bodyPost_ret (v := .slice (some ⟨w.heap.size, 0, none⟩) 5 5) (by simp [results, Try.results46, go_sem]) rfl ⟨_, rfl, Nat.le_refl _, rd_blk (xs := bedsK) (Blk.new w _ _) rfl (by decide), (Ext.refl w).alloc _⟩
set_option maxHeartbeats 4000000 in
theorem law_leg (won : Bool) (sa : Option Addr) (sn sc : Nat) (w : World) : Calls Try.prog 44 #[.bool won, .slice sa sn sc] w fun e w' => ∃ k, e = .returned (.agg #[.int .i64 101, .int .i64 0, .int .i64 1, .slice (some ⟨k, 0, none⟩) 5 5, .slice sa sn sc, .bool won]) ∧ RdI S0 w' (.slice (some ⟨k, 0, none⟩) 5 5) bedsK ∧ Ext w w' := by
  go_enter Try.func44, Try.ntmps44
  go_upto_region 1 with fail
  obtain ⟨w1, hw1⟩ : ∃ y, y = w.alloc (.cells #[.int .i64 0, .int .i64 0, .int .i64 0, .slice none 0 0, .slice none 0 0, .bool false] 28) := ⟨_, rfl⟩
  rw [← hw1]
  have HX1 : Hid (Ext w w1) := Lib.hid (by rw [hw1]; exact (Ext.refl w).alloc _)
  have HB1 : Hid (Blk w1 w.heap.size #[.int .i64 0, .int .i64 0, .int .i64 0, .slice none 0 0, .slice none 0 0, .bool false]) := Lib.hid (by rw [hw1]; exact Blk.new _ _ _)
  clear hw1
  go_wp2_with fail
  refine (law_laws w1).mono ?_
  rintro e w2 ⟨rfl, hx2⟩
  have HX2 := Lib.hid hx2
  clear hx2
  go_wp2_with fail
  refine (law_beds w2).mono ?_
  rintro e w3 ⟨k, rfl, hkn, hk, hx3⟩
  have HKN : Hid (¬ k = w.heap.size) := Lib.hid (by have h1 := HB1.out.lt; have h2 := HX2.out.size; omega)
  have HK := Lib.hid hk
  have HX3 := Lib.hid (HX2.out.trans hx3)
  have HB3 := Lib.hid (HB1.out.ext HX3.out)
  clear hk hx3 hkn
  have r0 := HB3.out.cell 0 (v := .int .i64 0) rfl
  have r1 := HB3.out.cell 1 (v := .int .i64 0) rfl
  have r2 := HB3.out.cell 2 (v := .int .i64 0) rfl
  have r3 := HB3.out.cell 3 (v := .slice none 0 0) rfl
  have r4 := HB3.out.cell 4 (v := .slice none 0 0) rfl
  have r5 := HB3.out.cell 5 (v := .bool false) rfl
  have rl := HB3.out.lt
  have f0 := HB3.out.frozen 0
  have f1 := HB3.out.frozen 1
  have f2 := HB3.out.frozen 2
  have f3 := HB3.out.frozen 3
  have f4 := HB3.out.frozen 4
  have f5 := HB3.out.frozen 5
  go_wp2
  have hq := six_set (b := w.heap.size) HB3.out (.int .i64 101) (.int .i64 0) (.int .i64 1) (.slice (some ⟨k, 0, none⟩) 5 5) (.slice sa sn sc) (.bool won)
  have hc := six_chg (· = w.heap.size) w3 (b := w.heap.size) rfl (.int .i64 101) (.int .i64 0) (.int .i64 1) (.slice (some ⟨k, 0, none⟩) 5 5) (.slice sa sn sc) (.bool won)
  generalize World.setCell _ _ _ = W at hq hc ⊢
  have q0 := hq.cell 0 (v := .int .i64 101) rfl
  have q1 := hq.cell 1 (v := .int .i64 0) rfl
  have q2 := hq.cell 2 (v := .int .i64 1) rfl
  have q3 := hq.cell 3 (v := .slice (some ⟨k, 0, none⟩) 5 5) rfl
  have q4 := hq.cell 4 (v := .slice sa sn sc) rfl
  have q5 := hq.cell 5 (v := .bool won) rfl
  have hkk := HK.out.chgB hc HKN.out
  refine bodyPost_ret (v := .agg #[.int .i64 101, .int .i64 0, .int .i64 1, .slice (some ⟨k, 0, none⟩) 5 5, .slice sa sn sc, .bool won]) (by simp [results, Try.results44, go_sem, q0, q1, q2, q3, q4, q5]) rfl ⟨k, rfl, hkk, Chg.to_ext (HX1.out.trans HX3.out) hc (by rintro i rfl; exact Nat.le_refl _)⟩
end Go.Proofs.Ytmopadnkjlodnaa
namespace Go.Proofs.Ytmopadnkjlodnaa
open Go.RowKit Go.BigFrame
theorem i64_all (l : List Int) (h : l.all (fun x => decide (-9223372036854775808 ≤ x) && decide (x ≤ 9223372036854775807)) = true) : ∀ x ∈ l, I64 x := by
  intro x hx
  have := List.all_eq_true.1 h x hx
  rw [Bool.and_eq_true, decide_eq_true_eq, decide_eq_true_eq] at this
  exact this
theorem legR_K1 {w : World} {k j : Nat} (hb : RdI S0 w (.slice (some ⟨k, 0, none⟩) 5 5) bedsK) (hs : RdI S0 w (.slice (some ⟨j, 0, none⟩) 3 3) [61, 0, 40]) : LegR legK1 (some ⟨k, 0, none⟩) (some ⟨j, 0, none⟩) 5 3 w :=
  ⟨hb, hs, i64_all _ rfl, i64_all _ rfl, ⟨by decide, by decide⟩⟩
theorem call_v (k j : Nat) (w : World) (hb : RdI S0 w (.slice (some ⟨k, 0, none⟩) 5 5) bedsK) (hs : RdI S0 w (.slice (some ⟨j, 0, none⟩) 3 3) [61, 0, 40]) :
    Calls Try.prog 17 #[.agg #[.int .i64 101, .int .i64 0, .int .i64 1, .slice (some ⟨k, 0, none⟩) 5 5, .slice (some ⟨j, 0, none⟩) 3 3, .bool true]] w fun e w' => ∃ g c, e = .returned (.tuple #[.slice (some ⟨g, 0, none⟩) 3 c, .int .i64 0, .int .i64 0]) ∧ (w'.cell? ⟨g, 4, none⟩ = some (.int .i64 1) ∧ w'.cell? ⟨g, 5, none⟩ = some (.int .i64 3) ∧ w'.cell? ⟨g, 3, none⟩ = some (.int .i64 1)) ∧ Ext w w' := by
  refine (mean_Visits legK1 (some ⟨k, 0, none⟩) (some ⟨j, 0, none⟩) 5 3 w (legR_K1 hb hs)).mono ?_
  rintro e w' ⟨v, rfl, hv, hx⟩
  rw [known_v] at hv ⊢
  obtain ⟨g, c, rfl, -, -, h0⟩ := hv.at 0 (by decide)
  obtain ⟨g', c', e1, -, -, h1⟩ := hv.at 1 (by decide)
  cases e1
  exact ⟨g, c, rfl, ⟨h1 0 _ rfl, h1 1 _ rfl, h0 3 _ rfl⟩, hx⟩
theorem call_w (k j : Nat) (w : World) (hb : RdI S0 w (.slice (some ⟨k, 0, none⟩) 5 5) bedsK) (hs : RdI S0 w (.slice (some ⟨j, 0, none⟩) 2 2) [61, 41]) :
    Calls Try.prog 17 #[.agg #[.int .i64 101, .int .i64 0, .int .i64 1, .slice (some ⟨k, 0, none⟩) 5 5, .slice (some ⟨j, 0, none⟩) 2 2, .bool true]] w fun e w' => ∃ a c, e = .returned (.tuple #[.slice a 0 c, .int .i64 1, .int .i64 7]) ∧ Ext w w' := by
  refine (mean_Visits legK2 (some ⟨k, 0, none⟩) (some ⟨j, 0, none⟩) 5 2 w ⟨hb, hs, i64_all _ rfl, i64_all _ rfl, ⟨by decide, by decide⟩⟩).mono ?_
  rintro e w' ⟨v, rfl, hv, hx⟩
  rw [known_w] at hv ⊢
  obtain ⟨a, c, rfl⟩ := hv.shape
  exact ⟨a, c, rfl, hx⟩
theorem call_t (k j m : Nat) (w : World) (hm : Blk w m #[.int .i64 101, .int .i64 0, .int .i64 1, .slice (some ⟨k, 0, none⟩) 5 5, .slice (some ⟨j, 0, none⟩) 3 3, .bool true]) (hb : RdI S0 w (.slice (some ⟨k, 0, none⟩) 5 5) bedsK) (hs : RdI S0 w (.slice (some ⟨j, 0, none⟩) 3 3) [61, 0, 40]) :
    Calls Try.prog 39 #[.slice (some ⟨m, 0, none⟩) 1 1] w fun e w' => e = .returned (.tuple #[.agg #[.int .i64 1, .int .i64 1, .int .i64 3, .int .i64 101, .int .i64 5, .int .i64 9, .int .i64 2, .int .i64 7, .int .i64 0, .int .i64 0, .int .i64 0, .int .i64 40], .int .i64 0, .int .i64 0]) ∧ Ext w w' := by
  have h := mean_Totals [legK1] (some ⟨m, 0, none⟩) 1 w (fun i hi => by
    match i, hi with
    | 0, _ =>
      refine ⟨m, 0, some ⟨k, 0, none⟩, some ⟨j, 0, none⟩, 5, 3, rfl, fun jj u hu => ?_, legR_K1 hb hs⟩
      rw [Nat.zero_mul, Nat.zero_add]
      exact hm.cell jj (by rw [← Array.getElem?_toList]; exact hu)) (by decide)
  rw [known_t] at h
  exact h
theorem call_a (w : World) : Calls Try.prog 26 #[.agg #[.int .i64 1, .int .i64 1, .int .i64 3, .int .i64 101, .int .i64 5, .int .i64 9, .int .i64 2, .int .i64 7, .int .i64 0, .int .i64 0, .int .i64 0, .int .i64 40]] w fun e w' => e = .returned (.tuple #[.agg #[.int .i64 101, .int .i64 3, .int .i64 303, .int .i64 5], .int .i64 0]) ∧ Ext w w' := by
  have h := mean_Average totK w
  rw [known_a] at h
  exact h
theorem call_r (w : World) : Calls Try.prog 27 #[.agg #[.int .i64 1, .int .i64 1, .int .i64 3, .int .i64 101, .int .i64 5, .int .i64 9, .int .i64 2, .int .i64 7, .int .i64 0, .int .i64 0, .int .i64 0, .int .i64 40]] w fun e w' => e = .returned (.tuple #[.agg #[.int .i64 1, .int .i64 7, .int .i64 1, .int .i64 2], .int .i64 0]) ∧ Ext w w' := by
  have h := mean_Rate totK w
  rw [known_r] at h
  exact h
theorem ways_at {w : World} {base : Nat} {v : Value} {ws : List (List Int)} (h : WaysAt w base v ws) (i : Nat) (hi : i < ws.length) (h0 : 0 < ws[i].length) : ∃ g c ag ac, v = .slice (some ⟨g, 0, none⟩) ws.length c ∧ w.cell? ⟨g, i, none⟩ = some (.slice (some ⟨ag, 0, none⟩) ws[i].length ac) ∧ ∀ j (hj : j < ws[i].length), w.cell? ⟨ag, j, none⟩ = some (.int .i64 ws[i][j]) := by
  obtain ⟨vals, h1, h2, h3⟩ := h
  obtain ⟨a, c, hv, ho⟩ := h3 i hi
  have hc := fun g (hg : v.ownBlock = some g) => World.ownsRow.cells (w := w) (g := g) h1 hg
  have hc2 := fun g (hg : (Value.slice a ws[i].length c).ownBlock = some g) => World.ownsRow.cells (w := w) (g := g) ho hg
  obtain ⟨-, ⟨e, h4⟩ | ⟨g, cap, cur, e, -⟩⟩ := h1
  · omega
  · obtain ⟨-, ⟨e2, h5⟩ | ⟨ag, acap, acur, e2, -⟩⟩ := ho
    · omega
    · refine ⟨g, cap, ag, acap, e, ?_, fun j hj => ?_⟩
      · have := hc g (by rw [e]; rfl) i _ hv
        rw [addr_add, Nat.zero_add] at this
        rw [e2] at this
        exact this
      · have := hc2 ag (by rw [e2]; rfl) j (.int .i64 ws[i][j]) (by simp [hj])
        rw [addr_add, Nat.zero_add] at this
        exact this
theorem call_s (k j : Nat) (w : World) (hb : RdI S0 w (.slice (some ⟨k, 0, none⟩) 5 5) bedsK) (hs : RdI S0 w (.slice (some ⟨j, 0, none⟩) 3 3) [61, 0, 40]) :
    Calls Try.prog 22 #[.agg #[.int .i64 101, .int .i64 0, .int .i64 1, .slice (some ⟨k, 0, none⟩) 5 5, .slice (some ⟨j, 0, none⟩) 3 3, .bool true], .int .i64 1] w fun e w' => ∃ g c a0 c0 a1 c1, e = .returned (.tuple #[.slice (some ⟨g, 0, none⟩) 3 c, .int .i64 0, .int .i64 0]) ∧ (w'.cell? ⟨g, 0, none⟩ = some (.slice (some ⟨a0, 0, none⟩) 3 c0) ∧ w'.cell? ⟨g, 1, none⟩ = some (.slice (some ⟨a1, 0, none⟩) 1 c1) ∧ w'.cell? ⟨a0, 1, none⟩ = some (.int .i64 101) ∧ w'.cell? ⟨a0, 2, none⟩ = some (.int .i64 320) ∧ w'.cell? ⟨a1, 0, none⟩ = some (.int .i64 320)) ∧ Ext w w' := by
  refine (mean_Show legK1 1 (some ⟨k, 0, none⟩) (some ⟨j, 0, none⟩) 5 3 w (legR_K1 hb hs)).mono ?_
  rintro e w' ⟨v, rfl, hv, hx⟩
  rw [known_s] at hv ⊢
  obtain ⟨g, c, a0, c0, rfl, h1, h2⟩ := ways_at hv 0 (by decide) (by decide)
  obtain ⟨g', c', a1, c1, e1, h3, h4⟩ := ways_at hv 1 (by decide) (by decide)
  cases e1
  exact ⟨g, c, a0, c0, a1, c1, rfl, ⟨h1, h3, h2 1 (by decide), h2 2 (by decide), h4 0 (by decide)⟩, hx⟩
theorem call_x (k a b c m : Nat) (w : World) (hk : RdI S0 w (.slice (some ⟨k, 0, none⟩) 5 5) bedsK) (ha : Blk w a #[.int .i64 320, .int .i64 101, .int .i64 0]) (hb : Blk w b #[.int .i64 320]) (hc : Blk w c #[.int .i64 0, .int .i64 220]) (hm : Blk w m #[.slice (some ⟨a, 0, none⟩) 3 3, .slice (some ⟨b, 0, none⟩) 1 1, .slice (some ⟨c, 0, none⟩) 2 2]) :
    Calls Try.prog 30 #[.agg #[.int .i64 101, .int .i64 0, .int .i64 1], .slice (some ⟨k, 0, none⟩) 5 5, .slice (some ⟨m, 0, none⟩) 3 3] w fun e w' => ∃ la lc g sc, e = .returned (.tuple #[.agg #[.int .i64 1, .int .i64 1, .int .i64 3, .int .i64 101, .int .i64 6, .int .i64 6, .int .i64 4, .int .i64 4, .int .i64 0, .int .i64 0, .int .i64 0, .int .i64 40], .agg #[.int .i64 101, .int .i64 0, .int .i64 1, .slice la 5 lc, .slice (some ⟨g, 0, none⟩) 3 sc, .bool true], .int .i64 0, .int .i64 0]) ∧ w'.cell? ⟨g, 0, none⟩ = some (.int .i64 61) ∧ Ext w w' := by
  refine (mean_Exact 101 0 1 bedsK (some ⟨k, 0, none⟩) 5 [[320, 101, 0], [320], [0, 220]] (some ⟨m, 0, none⟩) 3 w ⟨by decide, by decide⟩ hk (i64_all _ rfl) (fun i hi => ?_) (by decide)).mono ?_
  · match i, hi with
    | 0, _ => exact ⟨m, 0, some ⟨a, 0, none⟩, 3, rfl, hm.cell 0 rfl, (rd_cells (rd_blk (xs := [320, 101, 0]) ha rfl (by decide))).2, ⟨Nat.le_refl _, by show (_ : Nat) ≤ _; decide⟩, i64_all _ rfl, (show ([320, 101, 0] : List Int).length ≤ 1000 by decide)⟩
    | 1, _ => exact ⟨m, 0, some ⟨b, 0, none⟩, 1, rfl, hm.cell 1 rfl, (rd_cells (rd_blk (xs := [320]) hb rfl (by decide))).2, ⟨Nat.le_refl _, by show (_ : Nat) ≤ _; decide⟩, i64_all _ rfl, (show ([320] : List Int).length ≤ 1000 by decide)⟩
    | 2, _ => exact ⟨m, 0, some ⟨c, 0, none⟩, 2, rfl, hm.cell 2 rfl, (rd_cells (rd_blk (xs := [0, 220]) hc rfl (by decide))).2, ⟨Nat.le_refl _, by show (_ : Nat) ≤ _; decide⟩, i64_all _ rfl, (show ([0, 220] : List Int).length ≤ 1000 by decide)⟩
  · rintro e w' ⟨he, hx⟩
    rw [known_x] at he
    obtain ⟨la, lc, sa, sc, rfl, -, ho⟩ := he
    have hcs := fun g (hg : (Value.slice sa 3 sc).ownBlock = some g) => World.ownsRow.cells (w := w') (g := g) ho hg
    obtain ⟨-, ⟨e1, h2⟩ | ⟨g, cap, cur, e1, -⟩⟩ := ho
    · cases h2
    · cases e1
      have := hcs g rfl 0 (.int .i64 61) rfl
      rw [addr_add] at this
      exact ⟨la, lc, g, sc, rfl, this, hx⟩
theorem call_b (w : World) : Calls Try.prog 32 #[.agg #[.int .i64 20, .int .i64 1, .int .i64 30, .int .i64 1], .agg #[.int .i64 10, .int .i64 1, .int .i64 19, .int .i64 1]] w fun e w' => e = .returned (.tuple #[.bool true, .bool true, .int .i64 0]) ∧ Ext w w' := by
  have h := mean_Better ⟨⟨20, 1⟩, ⟨30, 1⟩⟩ ⟨⟨10, 1⟩, ⟨19, 1⟩⟩ w
  rw [known_b] at h
  exact h
end Go.Proofs.Ytmopadnkjlodnaa
namespace Go.Proofs.Ytmopadnkjlodnaa
open Go.RowKit Go.BigFrame
/-- Cells that keep their values. -/
def HasL (w : World) (L : List (Addr × Value)) : Prop := ∀ p ∈ L, w.cell? p.1 = some p.2
theorem HasL.nil (w : World) : HasL w [] := fun _ h => by cases h
theorem HasL.cons {w : World} {a : Addr} {v : Value} {L : List (Addr × Value)} (h : w.cell? a = some v) (hL : HasL w L) : HasL w ((a, v) :: L) := fun p hp => by
  rcases List.mem_cons.1 hp with rfl | hp
  · exact h
  · exact hL p hp
theorem HasL.ext {w w' : World} {L : List (Addr × Value)} (h : HasL w L) (hx : Ext w w') : HasL w' L := fun p hp => hx.cell (h p hp)
theorem HasL.hd {w : World} {a : Addr} {v : Value} {L : List (Addr × Value)} (h : HasL w ((a, v) :: L)) : w.cell? a = some v := h _ (List.mem_cons_self ..)
theorem HasL.tl {w : World} {a : Addr} {v : Value} {L : List (Addr × Value)} (h : HasL w ((a, v) :: L)) : HasL w L := fun p hp => h p (List.mem_cons_of_mem _ hp)
theorem rd_new {w : World} {xs : List Int} {cs : Array Value} {t : TypeId} {k : Nat} (hk : k = w.heap.size) (hc : cs.toList = xs.map (Value.int .i64)) (hl : xs.length ≤ 1000) : RdI S0 (w.alloc (.cells cs t)) (.slice (some ⟨k, 0, none⟩) xs.length xs.length) xs := by
  subst hk
  exact rd_blk (Blk.new _ _ _) hc hl
set_option maxRecDepth 100000 in
set_option maxHeartbeats 2000000 in
theorem law_known (w : World) : Calls Try.prog 14 #[] w fun e w' => e = .returned (.bool true) ∧ Ext w w' := by
  go_enter Try.func14, Try.ntmps14
  have hE := Ext.refl w
  go_wp2_with fail
  refine (law_leg true _ 3 3 _).mono ?_
  rintro e w1 ⟨k1, rfl, hb, hx⟩
  have hE1 := (hE.alloc _).trans hx
  have hs := (rd_new (w := w) (xs := [61, 0, 40]) rfl rfl (by decide)).ext hx
  clear hx hE
  go_wp2_with fail
  refine (call_v k1 _ _ hb hs).mono ?_
  rintro e w2 ⟨vg, vc, rfl, ⟨v1, v2, v3⟩, hx⟩
  have hE2 := hE1.trans hx
  have HC2 := Lib.hid (HasL.cons v1 (HasL.cons v2 (HasL.cons v3 (HasL.nil _))))
  clear hx hE1 hb hs v1 v2 v3
  go_wp2_with fail
  refine (law_leg true _ 3 3 _).mono ?_
  rintro e w3 ⟨k3, rfl, hb, hx⟩
  have hE3 := (hE2.alloc _).trans hx
  have hs := (rd_new (w := w2) (xs := [61, 0, 40]) rfl rfl (by decide)).ext hx
  have HC3 := Lib.hid (HC2.out.ext (Ext.trans ((Ext.refl _).alloc _) hx))
  clear hx hE2 HC2
  go_wp2_with fail
  refine (call_t k3 w2.heap.size w3.heap.size _ (Blk.new _ _ _) (hb.ext ((Ext.refl _).alloc _)) (hs.ext ((Ext.refl _).alloc _))).mono ?_
  rintro e w4 ⟨rfl, hx⟩
  have hE4 := (hE3.alloc _).trans hx
  have HC4 := Lib.hid (HC3.out.ext (Ext.trans ((Ext.refl _).alloc _) hx))
  clear hx hE3 HC3 hb hs
  go_wp2_with fail
  refine (call_a _).mono ?_
  rintro e w5 ⟨rfl, hx⟩
  have hT : Blk w5 w4.heap.size #[.int .i64 1, .int .i64 1, .int .i64 3, .int .i64 101, .int .i64 5, .int .i64 9, .int .i64 2, .int .i64 7, .int .i64 0, .int .i64 0, .int .i64 0, .int .i64 40] := (Blk.new w4 _ _).ext hx
  have hs : Ext w5 (w5.alloc (.cells #[.int .i64 101, .int .i64 3, .int .i64 303, .int .i64 5] 59)) := (Ext.refl w5).alloc _
  have hE5 := (hE4.alloc _).trans hx
  have HC5 := Lib.hid (HC4.out.ext (Ext.trans ((Ext.refl _).alloc _) hx))
  have t0 := (hT.ext hs).cell 0 (v := .int .i64 1) rfl
  have t1 := (hT.ext hs).cell 1 (v := .int .i64 1) rfl
  have t2 := (hT.ext hs).cell 2 (v := .int .i64 3) rfl
  have t3 := (hT.ext hs).cell 3 (v := .int .i64 101) rfl
  have t4 := (hT.ext hs).cell 4 (v := .int .i64 5) rfl
  have t5 := (hT.ext hs).cell 5 (v := .int .i64 9) rfl
  have t6 := (hT.ext hs).cell 6 (v := .int .i64 2) rfl
  have t7 := (hT.ext hs).cell 7 (v := .int .i64 7) rfl
  have t8 := (hT.ext hs).cell 8 (v := .int .i64 0) rfl
  have t9 := (hT.ext hs).cell 9 (v := .int .i64 0) rfl
  have t10 := (hT.ext hs).cell 10 (v := .int .i64 0) rfl
  have t11 := (hT.ext hs).cell 11 (v := .int .i64 40) rfl
  have HT := Lib.hid hT
  generalize w4.heap.size = kt at *
  clear hx hE4 HC4 hT hs
  go_wp2_with fail
  refine (call_r _).mono ?_
  rintro e w6 ⟨rfl, hx⟩
  have hs := Ext.trans ((Ext.refl w5).alloc (.cells #[.int .i64 101, .int .i64 3, .int .i64 303, .int .i64 5] 59)) hx
  have hE6 := hE5.trans hs
  have hA : Blk w6 w5.heap.size #[.int .i64 101, .int .i64 3, .int .i64 303, .int .i64 5] := (Blk.new w5 _ _).ext hx
  have hT := HT.out.ext hs
  have HC6 := Lib.hid (HasL.cons (hT.cell 3 (v := .int .i64 101) rfl) (HasL.cons (hT.cell 4 (v := .int .i64 5) rfl) (HasL.cons (hT.cell 7 (v := .int .i64 7) rfl) (HasL.cons (hT.cell 11 (v := .int .i64 40) rfl)
    (HasL.cons (hA.cell 0 (v := .int .i64 101) rfl) (HasL.cons (hA.cell 1 (v := .int .i64 3) rfl) (HasL.cons (hA.cell 2 (v := .int .i64 303) rfl) (HC5.out.ext hs))))))))
  generalize w5.heap.size = ka at *
  clear hx hE5 HC5 hs hA hT HT t0 t1 t2 t3 t4 t5 t6 t7 t8 t9 t10 t11
  go_wp2_with fail
  refine (law_leg true _ 3 3 _).mono ?_
  rintro e w7 ⟨k7, rfl, hb, hx⟩
  have hE7 := Ext.trans ((hE6.alloc _).alloc _) hx
  have hR : Blk w7 w6.heap.size #[.int .i64 1, .int .i64 7, .int .i64 1, .int .i64 2] := ((Blk.new w6 _ _).alloc _).ext hx
  have hs := (rd_new (w := w6.alloc _) (xs := [61, 0, 40]) (k := w6.heap.size + 1) (by simp) rfl (by decide)).ext hx
  have HC7 := Lib.hid (HasL.cons (hR.cell 1 (v := .int .i64 7) rfl) (HasL.cons (hR.cell 3 (v := .int .i64 2) rfl) (HC6.out.ext (Ext.trans (((Ext.refl _).alloc _).alloc _) hx))))
  clear hx hE6 HC6 hR
  generalize w6.heap.size = kr at *
  go_wp2_with fail
  refine (call_s k7 _ _ hb hs).mono ?_
  rintro e w8 ⟨sg, sc, a0, c0, a1, c1, rfl, ⟨s1, s2, s3, s4, s5⟩, hx⟩
  have hE8 := hE7.trans hx
  have HC8 := Lib.hid (HasL.cons s1 (HasL.cons s2 (HasL.cons s3 (HasL.cons s4 (HasL.cons s5 (HC7.out.ext hx))))))
  clear hx hE7 HC7 hb hs s1 s2 s3 s4 s5
  go_wp2_with fail
  refine (law_laws _).mono ?_
  rintro e w9 ⟨rfl, hx⟩
  have hE9 := hE8.trans hx
  have HC9 := Lib.hid (HC8.out.ext hx)
  clear hx hE8 HC8
  go_wp2_with fail
  refine (law_beds _).mono ?_
  rintro e w10 ⟨k10, rfl, -, hb, hx⟩
  have hE10 := hE9.trans hx
  have HC10 := Lib.hid (HC9.out.ext hx)
  clear hx hE9 HC9
  go_wp2_with fail
  refine (call_x k10 w10.heap.size (w10.heap.size + 1) (w10.heap.size + 1 + 1) _ _ (hb.ext (by exact ((((Ext.refl _).alloc _).alloc _).alloc _).alloc _)) (by exact (((Blk.new w10 _ _).alloc _).alloc _).alloc _) (by exact ((Blk.at (w10.heap.size + 1) (by simp)).alloc _).alloc _) (by exact (Blk.at (w10.heap.size + 1 + 1) (by simp)).alloc _) (by exact Blk.at _ (by simp))).mono ?_
  rintro e w11 ⟨la, lc, g, lsc, rfl, x1, hx⟩
  have hs : Ext w10 w11 := Ext.trans (((((Ext.refl _).alloc _).alloc _).alloc _).alloc _) hx
  have hE11 := hE10.trans hs
  have HC11 := Lib.hid (HasL.cons x1 (HC10.out.ext hs))
  clear hx hs hE10 HC10 x1 hb
  go_wp2_with fail
  refine (law_leg true _ 2 2 _).mono ?_
  rintro e w12 ⟨k12, rfl, hb, hx⟩
  have hE12 := Ext.trans (((hE11.alloc _).alloc _).alloc _) hx
  have hX : Blk w12 w11.heap.size #[.int .i64 1, .int .i64 1, .int .i64 3, .int .i64 101, .int .i64 6, .int .i64 6, .int .i64 4, .int .i64 4, .int .i64 0, .int .i64 0, .int .i64 0, .int .i64 40] := (((Blk.new w11 _ _).alloc _).alloc _).ext hx
  have hL : Blk w12 (w11.heap.size + 1) #[.int .i64 101, .int .i64 0, .int .i64 1, .slice la 5 lc, .slice (some ⟨g, 0, none⟩) 3 lsc, .bool true] := (Blk.ext ((Blk.at (w11.heap.size + 1) (by simp)).alloc _) hx)
  have hs := (rd_new (w := (w11.alloc _).alloc _) (xs := [61, 41]) (k := w11.heap.size + 1 + 1) (by simp) rfl (by decide)).ext hx
  have HC12 := Lib.hid (HasL.cons (hX.cell 4 (v := .int .i64 6) rfl) (HasL.cons (hX.cell 7 (v := .int .i64 4) rfl) (HasL.cons (hL.cell 4 (v := .slice (some ⟨g, 0, none⟩) 3 lsc) rfl) (HasL.cons (hL.cell 5 (v := .bool true) rfl) (HC11.out.ext (Ext.trans ((((Ext.refl _).alloc _).alloc _).alloc _) hx))))))
  clear hx hE11 HC11 hX hL
  generalize w11.heap.size = kx at *
  go_wp2_with fail
  refine (call_w k12 _ _ hb hs).mono ?_
  rintro e w13 ⟨wa, wc, rfl, hx⟩
  have hE13 := hE12.trans hx
  have HC13 := Lib.hid (HC12.out.ext hx)
  clear hx hE12 HC12 hb hs
  go_wp2_with fail
  refine (call_b _).mono ?_
  rintro e w14 ⟨rfl, hx⟩
  have hE14 := Ext.trans ((hE13.alloc _).alloc _) hx
  have HC14 := (HC13.out.ext (Ext.trans (((Ext.refl _).alloc _).alloc _) hx))
  clear hx hE13 HC13
  have f0 := HC14.hd
  replace HC14 := HC14.tl
  have f1 := HC14.hd
  replace HC14 := HC14.tl
  have f2 := HC14.hd
  replace HC14 := HC14.tl
  have f3 := HC14.hd
  replace HC14 := HC14.tl
  have f4 := HC14.hd
  replace HC14 := HC14.tl
  have f5 := HC14.hd
  replace HC14 := HC14.tl
  have f6 := HC14.hd
  replace HC14 := HC14.tl
  have f7 := HC14.hd
  replace HC14 := HC14.tl
  have f8 := HC14.hd
  replace HC14 := HC14.tl
  have f9 := HC14.hd
  replace HC14 := HC14.tl
  have f10 := HC14.hd
  replace HC14 := HC14.tl
  have f11 := HC14.hd
  replace HC14 := HC14.tl
  have f12 := HC14.hd
  replace HC14 := HC14.tl
  have f13 := HC14.hd
  replace HC14 := HC14.tl
  have f14 := HC14.hd
  replace HC14 := HC14.tl
  have f15 := HC14.hd
  replace HC14 := HC14.tl
  have f16 := HC14.hd
  replace HC14 := HC14.tl
  have f17 := HC14.hd
  replace HC14 := HC14.tl
  have f18 := HC14.hd
  replace HC14 := HC14.tl
  have f19 := HC14.hd
  replace HC14 := HC14.tl
  have f20 := HC14.hd
  replace HC14 := HC14.tl
  have f21 := HC14.hd
  replace HC14 := HC14.tl
  clear HC14
  go_wp2_with fail
  go_ret
  exact ⟨rfl, hE14⟩
end Go.Proofs.Ytmopadnkjlodnaa
