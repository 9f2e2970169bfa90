/-
  The statement MeanBetters, for every input (no condition).
-/
import Derived.Test.YtmopadnkjlodnaaMrb
import Derived.Test.YtmopadnkjlodnaaMtd
import Derived.Test.YtmopadnkjlodnaaMsh
import Derived.Test.YtmopadnkjlodnaaPlb
import Derived.Test.YtmopadnkjlodnaaApp
import Derived.ProofKit
import Derived.ChangeArms
import Derived.OpenShut
import Derived.Test.YtmopadnkjlodnaaRows
namespace Go.Proofs.Ytmopadnkjlodnaa
theorem spn_in (s : Spn) : spnB s = (inB s.lo 0 s.hi && decide (s.hi ≤ 1000000)) := by
  unfold spnB
  rw [ins_two]
  unfold inB
  rw [Bool.eq_iff_iff]
  simp only [Bool.and_eq_true, decide_eq_true_eq]
  omega
theorem avr_avg (t : Tot) : avrS t = avgS t := by
  unfold avrS avgS
  rw [insm_one, spn_in]
  have e : (inB t.points 0 1000000 = false ∨ inB t.darts.lo 0 t.darts.hi = false ∨ 1000000 < t.darts.hi) ↔ (inB t.points 0 1000000 = false ∨ (inB t.darts.lo 0 t.darts.hi && decide (t.darts.hi ≤ 1000000)) = false) := by
    rw [Bool.and_eq_false_iff, decide_eq_false_iff_not, Int.not_le]
  simp only [e]
end Go.Proofs.Ytmopadnkjlodnaa
namespace Go.Proofs.Ytmopadnkjlodnaa
def bedsK : List Int := [101, 120, 201, 220, 320]
def legK1 : Leg := ⟨101, 0, 1, bedsK, [61, 0, 40], true⟩
def legK2 : Leg := ⟨101, 0, 1, bedsK, [61, 41], true⟩
theorem known_v : vstF legK1 = ([⟨3, 3, 0, 1, true⟩, ⟨1, 3, 1, 3, true⟩, ⟨1, 3, 1, 3, true⟩], 0, 0) := by kernel_rfl
theorem known_w : vstF legK2 = ([], 1, 7) := by kernel_rfl
def totK : Tot := ⟨1, 1, 3, 101, ⟨5, 9⟩, ⟨2, 7⟩, 0, 0, 0, 40⟩
theorem known_t : ofS 100 [legK1] = (totK, 0, 0) := by kernel_rfl
theorem known_a : avgS totK = (⟨⟨101, 3⟩, ⟨303, 5⟩⟩, 0) := by kernel_rfl
theorem known_r : ratS totK = (⟨⟨1, 7⟩, ⟨1, 2⟩⟩, 0) := by kernel_rfl
theorem known_s : shwS legK1 1 = ([[0, 101, 320], [320], [220]], 0, 0) := by kernel_rfl
theorem known_x : exaF 101 0 1 bedsK [[320, 101, 0], [320], [0, 220]] = .inl ⟨⟨1, 1, 3, 101, ⟨6, 6⟩, ⟨4, 4⟩, 0, 0, 0, 40⟩, 0, true, [61, 0, 40], true⟩ := by kernel_rfl
theorem known_b : betR ⟨⟨20, 1⟩, ⟨30, 1⟩⟩ ⟨⟨10, 1⟩, ⟨19, 1⟩⟩ = .tuple #[.bool true, .bool true, .int .i64 0] := by kernel_rfl
end Go.Proofs.Ytmopadnkjlodnaa
namespace Go.Proofs.Ytmopadnkjlodnaa
open Go.RowKit Go.BigFrame
attribute [local go_sem] Later.cell Later.frozen
theorem rd_blk {w : World} {k : Nat} {xs : List Int} {cs : Array Value} (hb : Blk w k cs) (hc : cs.toList = xs.map (Value.int .i64)) (hl : xs.length ≤ 1000) : RdI S0 w (.slice (some ⟨k, 0, none⟩) xs.length xs.length) xs := by
  obtain ⟨t, ht⟩ := hb
  refine .inr ⟨k, 0, xs.length, cs, t, (0, 0), rfl, Nat.le_refl _, by unfold maxLen; omega, id, ht, fun i hi => ?_⟩
  have : cs.toList[i]? = (xs.map (Value.int .i64))[i]? := by rw [hc]
  rw [Nat.zero_add, ← Array.getElem?_toList, this]
  simp [hi]
theorem RdI.chgB {S : Nat → Prop} {A B : World} {k o n c : Nat} {xs : List Int} (h : RdI S0 A (.slice (some ⟨k, o, none⟩) n c) xs) (hc : Chg S A B) (hb : ¬ S k) : RdI S0 B (.slice (some ⟨k, o, none⟩) n c) xs := by
  rcases h with ⟨h, -⟩ | ⟨b, o', c', cs, t, f, h1, h2, h3, h4, h5, h6⟩
  · cases h
  · cases h1
    exact .inr ⟨k, o, c, cs, t, f, rfl, h2, h3, h4, hc.heap h5 hb, h6⟩
theorem law_laws (w : World) : Calls Try.prog 45 #[] w fun e w' => e = .returned (.agg #[.int .i64 101, .int .i64 0, .int .i64 1]) ∧ Ext w w' := by
  go_enter Try.func45, Try.ntmps45
  go_wp2
  refine bodyPost_ret (v := .agg #[.int .i64 101, .int .i64 0, .int .i64 1]) (by simp [results, Try.results45, go_sem]) rfl ⟨rfl, (Ext.refl w).alloc _⟩
theorem law_beds (w : World) : Calls Try.prog 46 #[] w fun e w' => ∃ k, e = .returned (.slice (some ⟨k, 0, none⟩) 5 5) ∧ w.heap.size ≤ k ∧ RdI S0 w' (.slice (some ⟨k, 0, none⟩) 5 5) bedsK ∧ Ext w w' := by
  go_enter Try.func46, Try.ntmps46
  go_wp2
  refine bodyPost_ret (v := .slice (some ⟨w.heap.size, 0, none⟩) 5 5) (by simp [results, Try.results46, go_sem]) rfl ⟨_, rfl, Nat.le_refl _, rd_blk (xs := bedsK) (Blk.new w _ _) rfl (by decide), (Ext.refl w).alloc _⟩
set_option maxHeartbeats 4000000 in
theorem law_leg (won : Bool) (sa : Option Addr) (sn sc : Nat) (w : World) : Calls Try.prog 44 #[.bool won, .slice sa sn sc] w fun e w' => ∃ k, e = .returned (.agg #[.int .i64 101, .int .i64 0, .int .i64 1, .slice (some ⟨k, 0, none⟩) 5 5, .slice sa sn sc, .bool won]) ∧ RdI S0 w' (.slice (some ⟨k, 0, none⟩) 5 5) bedsK ∧ Ext w w' := by
  go_enter Try.func44, Try.ntmps44
  go_upto_region 1 with fail
  obtain ⟨w1, hw1⟩ : ∃ y, y = w.alloc (.cells #[.int .i64 0, .int .i64 0, .int .i64 0, .slice none 0 0, .slice none 0 0, .bool false] 28) := ⟨_, rfl⟩
  rw [← hw1]
  have HX1 : Hid (Ext w w1) := Lib.hid (by rw [hw1]; exact (Ext.refl w).alloc _)
  have HB1 : Hid (Blk w1 w.heap.size #[.int .i64 0, .int .i64 0, .int .i64 0, .slice none 0 0, .slice none 0 0, .bool false]) := Lib.hid (by rw [hw1]; exact Blk.new _ _ _)
  clear hw1
  go_wp2_with fail
  refine (law_laws w1).mono ?_
  rintro e w2 ⟨rfl, hx2⟩
  have HX2 := Lib.hid hx2
  clear hx2
  go_wp2_with fail
  refine (law_beds w2).mono ?_
  rintro e w3 ⟨k, rfl, hkn, hk, hx3⟩
  have HKN : Hid (¬ k = w.heap.size) := Lib.hid (by have h1 := HB1.out.lt; have h2 := HX2.out.size; omega)
  have HK := Lib.hid hk
  have HX3 := Lib.hid (HX2.out.trans hx3)
  have HB3 := Lib.hid (HB1.out.ext HX3.out)
  clear hk hx3 hkn
  have r0 := HB3.out.cell 0 (v := .int .i64 0) rfl
  have r1 := HB3.out.cell 1 (v := .int .i64 0) rfl
  have r2 := HB3.out.cell 2 (v := .int .i64 0) rfl
  have r3 := HB3.out.cell 3 (v := .slice none 0 0) rfl
  have r4 := HB3.out.cell 4 (v := .slice none 0 0) rfl
  have r5 := HB3.out.cell 5 (v := .bool false) rfl
  have rl := HB3.out.lt
  have f0 := HB3.out.frozen 0
  have f1 := HB3.out.frozen 1
  have f2 := HB3.out.frozen 2
  have f3 := HB3.out.frozen 3
  have f4 := HB3.out.frozen 4
  have f5 := HB3.out.frozen 5
  go_wp2
  have hq := six_set (b := w.heap.size) HB3.out (.int .i64 101) (.int .i64 0) (.int .i64 1) (.slice (some ⟨k, 0, none⟩) 5 5) (.slice sa sn sc) (.bool won)
  have hc := six_chg (· = w.heap.size) w3 (b := w.heap.size) rfl (.int .i64 101) (.int .i64 0) (.int .i64 1) (.slice (some ⟨k, 0, none⟩) 5 5) (.slice sa sn sc) (.bool won)
  generalize World.setCell _ _ _ = W at hq hc ⊢
  have q0 := hq.cell 0 (v := .int .i64 101) rfl
  have q1 := hq.cell 1 (v := .int .i64 0) rfl
  have q2 := hq.cell 2 (v := .int .i64 1) rfl
  have q3 := hq.cell 3 (v := .slice (some ⟨k, 0, none⟩) 5 5) rfl
  have q4 := hq.cell 4 (v := .slice sa sn sc) rfl
  have q5 := hq.cell 5 (v := .bool won) rfl
  have hkk := HK.out.chgB hc HKN.out
  refine bodyPost_ret (v := .agg #[.int .i64 101, .int .i64 0, .int .i64 1, .slice (some ⟨k, 0, none⟩) 5 5, .slice sa sn sc, .bool won]) (by simp [results, Try.results44, go_sem, q0, q1, q2, q3, q4, q5]) rfl ⟨k, rfl, hkk, Chg.to_ext (HX1.out.trans HX3.out) hc (by rintro i rfl; exact Nat.le_refl _)⟩
end Go.Proofs.Ytmopadnkjlodnaa
namespace Go.Proofs.Ytmopadnkjlodnaa
open Go.RowKit Go.BigFrame
theorem i64_all (l : List Int) (h : l.all (fun x => decide (-9223372036854775808 ≤ x) && decide (x ≤ 9223372036854775807)) = true) : ∀ x ∈ l, I64 x := by
  intro x hx
  have := List.all_eq_true.1 h x hx
  rw [Bool.and_eq_true, decide_eq_true_eq, decide_eq_true_eq] at this
  exact this
theorem legR_K1 {w : World} {k j : Nat} (hb : RdI S0 w (.slice (some ⟨k, 0, none⟩) 5 5) bedsK) (hs : RdI S0 w (.slice (some ⟨j, 0, none⟩) 3 3) [61, 0, 40]) : LegR legK1 (some ⟨k, 0, none⟩) (some ⟨j, 0, none⟩) 5 3 w :=
  ⟨hb, hs, i64_all _ rfl, i64_all _ rfl, ⟨by decide, by decide⟩⟩
theorem call_v (k j : Nat) (w : World) (hb : RdI S0 w (.slice (some ⟨k, 0, none⟩) 5 5) bedsK) (hs : RdI S0 w (.slice (some ⟨j, 0, none⟩) 3 3) [61, 0, 40]) :
    Calls Try.prog 17 #[.agg #[.int .i64 101, .int .i64 0, .int .i64 1, .slice (some ⟨k, 0, none⟩) 5 5, .slice (some ⟨j, 0, none⟩) 3 3, .bool true]] w fun e w' => ∃ g c, e = .returned (.tuple #[.slice (some ⟨g, 0, none⟩) 3 c, .int .i64 0, .int .i64 0]) ∧ (w'.cell? ⟨g, 4, none⟩ = some (.int .i64 1) ∧ w'.cell? ⟨g, 5, none⟩ = some (.int .i64 3) ∧ w'.cell? ⟨g, 3, none⟩ = some (.int .i64 1)) ∧ Ext w w' := by
  refine (mean_Visits legK1 (some ⟨k, 0, none⟩) (some ⟨j, 0, none⟩) 5 3 w (legR_K1 hb hs)).mono ?_
  rintro e w' ⟨v, rfl, hv, hx⟩
  rw [known_v] at hv ⊢
  obtain ⟨g, c, rfl, -, -, h0⟩ := hv.at 0 (by decide)
  obtain ⟨g', c', e1, -, -, h1⟩ := hv.at 1 (by decide)
  cases e1
  exact ⟨g, c, rfl, ⟨h1 0 _ rfl, h1 1 _ rfl, h0 3 _ rfl⟩, hx⟩
theorem call_w (k j : Nat) (w : World) (hb : RdI S0 w (.slice (some ⟨k, 0, none⟩) 5 5) bedsK) (hs : RdI S0 w (.slice (some ⟨j, 0, none⟩) 2 2) [61, 41]) :
    Calls Try.prog 17 #[.agg #[.int .i64 101, .int .i64 0, .int .i64 1, .slice (some ⟨k, 0, none⟩) 5 5, .slice (some ⟨j, 0, none⟩) 2 2, .bool true]] w fun e w' => ∃ a c, e = .returned (.tuple #[.slice a 0 c, .int .i64 1, .int .i64 7]) ∧ Ext w w' := by
  refine (mean_Visits legK2 (some ⟨k, 0, none⟩) (some ⟨j, 0, none⟩) 5 2 w ⟨hb, hs, i64_all _ rfl, i64_all _ rfl, ⟨by decide, by decide⟩⟩).mono ?_
  rintro e w' ⟨v, rfl, hv, hx⟩
  rw [known_w] at hv ⊢
  obtain ⟨a, c, rfl⟩ := hv.shape
  exact ⟨a, c, rfl, hx⟩
theorem call_t (k j m : Nat) (w : World) (hm : Blk w m #[.int .i64 101, .int .i64 0, .int .i64 1, .slice (some ⟨k, 0, none⟩) 5 5, .slice (some ⟨j, 0, none⟩) 3 3, .bool true]) (hb : RdI S0 w (.slice (some ⟨k, 0, none⟩) 5 5) bedsK) (hs : RdI S0 w (.slice (some ⟨j, 0, none⟩) 3 3) [61, 0, 40]) :
    Calls Try.prog 39 #[.slice (some ⟨m, 0, none⟩) 1 1] w fun e w' => e = .returned (.tuple #[.agg #[.int .i64 1, .int .i64 1, .int .i64 3, .int .i64 101, .int .i64 5, .int .i64 9, .int .i64 2, .int .i64 7, .int .i64 0, .int .i64 0, .int .i64 0, .int .i64 40], .int .i64 0, .int .i64 0]) ∧ Ext w w' := by
  have h := mean_Totals [legK1] (some ⟨m, 0, none⟩) 1 w (fun i hi => by
    match i, hi with
    | 0, _ =>
      refine ⟨m, 0, some ⟨k, 0, none⟩, some ⟨j, 0, none⟩, 5, 3, rfl, fun jj u hu => ?_, legR_K1 hb hs⟩
      rw [Nat.zero_mul, Nat.zero_add]
      exact hm.cell jj (by rw [← Array.getElem?_toList]; exact hu)) (by decide)
  rw [known_t] at h
  exact h
theorem call_a (w : World) : Calls Try.prog 26 #[.agg #[.int .i64 1, .int .i64 1, .int .i64 3, .int .i64 101, .int .i64 5, .int .i64 9, .int .i64 2, .int .i64 7, .int .i64 0, .int .i64 0, .int .i64 0, .int .i64 40]] w fun e w' => e = .returned (.tuple #[.agg #[.int .i64 101, .int .i64 3, .int .i64 303, .int .i64 5], .int .i64 0]) ∧ Ext w w' := by
  have h := mean_Average totK w
  rw [known_a] at h
  exact h
theorem call_r (w : World) : Calls Try.prog 27 #[.agg #[.int .i64 1, .int .i64 1, .int .i64 3, .int .i64 101, .int .i64 5, .int .i64 9, .int .i64 2, .int .i64 7, .int .i64 0, .int .i64 0, .int .i64 0, .int .i64 40]] w fun e w' => e = .returned (.tuple #[.agg #[.int .i64 1, .int .i64 7, .int .i64 1, .int .i64 2], .int .i64 0]) ∧ Ext w w' := by
  have h := mean_Rate totK w
  rw [known_r] at h
  exact h
theorem ways_at {w : World} {base : Nat} {v : Value} {ws : List (List Int)} (h : WaysAt w base v ws) (i : Nat) (hi : i < ws.length) (h0 : 0 < ws[i].length) : ∃ g c ag ac, v = .slice (some ⟨g, 0, none⟩) ws.length c ∧ w.cell? ⟨g, i, none⟩ = some (.slice (some ⟨ag, 0, none⟩) ws[i].length ac) ∧ ∀ j (hj : j < ws[i].length), w.cell? ⟨ag, j, none⟩ = some (.int .i64 ws[i][j]) := by
  obtain ⟨vals, h1, h2, h3⟩ := h
  obtain ⟨a, c, hv, ho⟩ := h3 i hi
  have hc := fun g (hg : v.ownBlock = some g) => World.ownsRow.cells (w := w) (g := g) h1 hg
  have hc2 := fun g (hg : (Value.slice a ws[i].length c).ownBlock = some g) => World.ownsRow.cells (w := w) (g := g) ho hg
  obtain ⟨-, ⟨e, h4⟩ | ⟨g, cap, cur, e, -⟩⟩ := h1
  · omega
  · obtain ⟨-, ⟨e2, h5⟩ | ⟨ag, acap, acur, e2, -⟩⟩ := ho
    · omega
    · refine ⟨g, cap, ag, acap, e, ?_, fun j hj => ?_⟩
      · have := hc g (by rw [e]; rfl) i _ hv
        rw [addr_add, Nat.zero_add] at this
        rw [e2] at this
        exact this
      · have := hc2 ag (by rw [e2]; rfl) j (.int .i64 ws[i][j]) (by simp [hj])
        rw [addr_add, Nat.zero_add] at this
        exact this
theorem call_s (k j : Nat) (w : World) (hb : RdI S0 w (.slice (some ⟨k, 0, none⟩) 5 5) bedsK) (hs : RdI S0 w (.slice (some ⟨j, 0, none⟩) 3 3) [61, 0, 40]) :
    Calls Try.prog 22 #[.agg #[.int .i64 101, .int .i64 0, .int .i64 1, .slice (some ⟨k, 0, none⟩) 5 5, .slice (some ⟨j, 0, none⟩) 3 3, .bool true], .int .i64 1] w fun e w' => ∃ g c a0 c0 a1 c1, e = .returned (.tuple #[.slice (some ⟨g, 0, none⟩) 3 c, .int .i64 0, .int .i64 0]) ∧ (w'.cell? ⟨g, 0, none⟩ = some (.slice (some ⟨a0, 0, none⟩) 3 c0) ∧ w'.cell? ⟨g, 1, none⟩ = some (.slice (some ⟨a1, 0, none⟩) 1 c1) ∧ w'.cell? ⟨a0, 1, none⟩ = some (.int .i64 101) ∧ w'.cell? ⟨a0, 2, none⟩ = some (.int .i64 320) ∧ w'.cell? ⟨a1, 0, none⟩ = some (.int .i64 320)) ∧ Ext w w' := by
  refine (mean_Show legK1 1 (some ⟨k, 0, none⟩) (some ⟨j, 0, none⟩) 5 3 w (legR_K1 hb hs)).mono ?_
  rintro e w' ⟨v, rfl, hv, hx⟩
  rw [known_s] at hv ⊢
  obtain ⟨g, c, a0, c0, rfl, h1, h2⟩ := ways_at hv 0 (by decide) (by decide)
  obtain ⟨g', c', a1, c1, e1, h3, h4⟩ := ways_at hv 1 (by decide) (by decide)
  cases e1
  exact ⟨g, c, a0, c0, a1, c1, rfl, ⟨h1, h3, h2 1 (by decide), h2 2 (by decide), h4 0 (by decide)⟩, hx⟩
theorem call_x (k a b c m : Nat) (w : World) (hk : RdI S0 w (.slice (some ⟨k, 0, none⟩) 5 5) bedsK) (ha : Blk w a #[.int .i64 320, .int .i64 101, .int .i64 0]) (hb : Blk w b #[.int .i64 320]) (hc : Blk w c #[.int .i64 0, .int .i64 220]) (hm : Blk w m #[.slice (some ⟨a, 0, none⟩) 3 3, .slice (some ⟨b, 0, none⟩) 1 1, .slice (some ⟨c, 0, none⟩) 2 2]) :
    Calls Try.prog 30 #[.agg #[.int .i64 101, .int .i64 0, .int .i64 1], .slice (some ⟨k, 0, none⟩) 5 5, .slice (some ⟨m, 0, none⟩) 3 3] w fun e w' => ∃ la lc g sc, e = .returned (.tuple #[.agg #[.int .i64 1, .int .i64 1, .int .i64 3, .int .i64 101, .int .i64 6, .int .i64 6, .int .i64 4, .int .i64 4, .int .i64 0, .int .i64 0, .int .i64 0, .int .i64 40], .agg #[.int .i64 101, .int .i64 0, .int .i64 1, .slice la 5 lc, .slice (some ⟨g, 0, none⟩) 3 sc, .bool true], .int .i64 0, .int .i64 0]) ∧ w'.cell? ⟨g, 0, none⟩ = some (.int .i64 61) ∧ Ext w w' := by
  refine (mean_Exact 101 0 1 bedsK (some ⟨k, 0, none⟩) 5 [[320, 101, 0], [320], [0, 220]] (some ⟨m, 0, none⟩) 3 w ⟨by decide, by decide⟩ hk (i64_all _ rfl) (fun i hi => ?_) (by decide)).mono ?_
  · match i, hi with
    | 0, _ => exact ⟨m, 0, some ⟨a, 0, none⟩, 3, rfl, hm.cell 0 rfl, (rd_cells (rd_blk (xs := [320, 101, 0]) ha rfl (by decide))).2, ⟨Nat.le_refl _, by show (_ : Nat) ≤ _; decide⟩, i64_all _ rfl, (show ([320, 101, 0] : List Int).length ≤ 1000 by decide)⟩
    | 1, _ => exact ⟨m, 0, some ⟨b, 0, none⟩, 1, rfl, hm.cell 1 rfl, (rd_cells (rd_blk (xs := [320]) hb rfl (by decide))).2, ⟨Nat.le_refl _, by show (_ : Nat) ≤ _; decide⟩, i64_all _ rfl, (show ([320] : List Int).length ≤ 1000 by decide)⟩
    | 2, _ => exact ⟨m, 0, some ⟨c, 0, none⟩, 2, rfl, hm.cell 2 rfl, (rd_cells (rd_blk (xs := [0, 220]) hc rfl (by decide))).2, ⟨Nat.le_refl _, by show (_ : Nat) ≤ _; decide⟩, i64_all _ rfl, (show ([0, 220] : List Int).length ≤ 1000 by decide)⟩
  · rintro e w' ⟨he, hx⟩
    rw [known_x] at he
    obtain ⟨la, lc, sa, sc, rfl, -, ho⟩ := he
    have hcs := fun g (hg : (Value.slice sa 3 sc).ownBlock = some g) => World.ownsRow.cells (w := w') (g := g) ho hg
    obtain ⟨-, ⟨e1, h2⟩ | ⟨g, cap, cur, e1, -⟩⟩ := ho
    · cases h2
    · cases e1
      have := hcs g rfl 0 (.int .i64 61) rfl
      rw [addr_add] at this
      exact ⟨la, lc, g, sc, rfl, this, hx⟩
theorem call_b (w : World) : Calls Try.prog 32 #[.agg #[.int .i64 20, .int .i64 1, .int .i64 30, .int .i64 1], .agg #[.int .i64 10, .int .i64 1, .int .i64 19, .int .i64 1]] w fun e w' => e = .returned (.tuple #[.bool true, .bool true, .int .i64 0]) ∧ Ext w w' := by
  have h := mean_Better ⟨⟨20, 1⟩, ⟨30, 1⟩⟩ ⟨⟨10, 1⟩, ⟨19, 1⟩⟩ w
  rw [known_b] at h
  exact h
end Go.Proofs.Ytmopadnkjlodnaa
namespace Go.Proofs.Ytmopadnkjlodnaa
open Go.RowKit Go.BigFrame
/-- Cells that keep their values. -/
def HasL (w : World) (L : List (Addr × Value)) : Prop := ∀ p ∈ L, w.cell? p.1 = some p.2
theorem HasL.nil (w : World) : HasL w [] := fun _ h => by cases h
theorem HasL.cons {w : World} {a : Addr} {v : Value} {L : List (Addr × Value)} (h : w.cell? a = some v) (hL : HasL w L) : HasL w ((a, v) :: L) := fun p hp => by
  rcases List.mem_cons.1 hp with rfl | hp
  · exact h
  · exact hL p hp
theorem HasL.ext {w w' : World} {L : List (Addr × Value)} (h : HasL w L) (hx : Ext w w') : HasL w' L := fun p hp => hx.cell (h p hp)
theorem HasL.hd {w : World} {a : Addr} {v : Value} {L : List (Addr × Value)} (h : HasL w ((a, v) :: L)) : w.cell? a = some v := h _ (List.mem_cons_self ..)
theorem HasL.tl {w : World} {a : Addr} {v : Value} {L : List (Addr × Value)} (h : HasL w ((a, v) :: L)) : HasL w L := fun p hp => h p (List.mem_cons_of_mem _ hp)
theorem rd_new {w : World} {xs : List Int} {cs : Array Value} {t : TypeId} {k : Nat} (hk : k = w.heap.size) (hc : cs.toList = xs.map (Value.int .i64)) (hl : xs.length ≤ 1000) : RdI S0 (w.alloc (.cells cs t)) (.slice (some ⟨k, 0, none⟩) xs.length xs.length) xs := by
  subst hk
  exact rd_blk (Blk.new _ _ _) hc hl
set_option maxRecDepth 100000 in
set_option maxHeartbeats 2000000 in
theorem law_known (w : World) : Calls Try.prog 14 #[] w fun e w' => e = .returned (.bool true) ∧ Ext w w' := by
  go_enter Try.func14, Try.ntmps14
  have hE := Ext.refl w
  go_wp2_with fail
  refine (law_leg true _ 3 3 _).mono ?_
  rintro e w1 ⟨k1, rfl, hb, hx⟩
  have hE1 := (hE.alloc _).trans hx
  have hs := (rd_new (w := w) (xs := [61, 0, 40]) rfl rfl (by decide)).ext hx
  clear hx hE
  go_wp2_with fail
  refine (call_v k1 _ _ hb hs).mono ?_
  rintro e w2 ⟨vg, vc, rfl, ⟨v1, v2, v3⟩, hx⟩
  have hE2 := hE1.trans hx
  have HC2 := Lib.hid (HasL.cons v1 (HasL.cons v2 (HasL.cons v3 (HasL.nil _))))
  clear hx hE1 hb hs v1 v2 v3
  go_wp2_with fail
  refine (law_leg true _ 3 3 _).mono ?_
  rintro e w3 ⟨k3, rfl, hb, hx⟩
  have hE3 := (hE2.alloc _).trans hx
  have hs := (rd_new (w := w2) (xs := [61, 0, 40]) rfl rfl (by decide)).ext hx
  have HC3 := Lib.hid (HC2.out.ext (Ext.trans ((Ext.refl _).alloc _) hx))
  clear hx hE2 HC2
  go_wp2_with fail
  refine (call_t k3 w2.heap.size w3.heap.size _ (Blk.new _ _ _) (hb.ext ((Ext.refl _).alloc _)) (hs.ext ((Ext.refl _).alloc _))).mono ?_
  rintro e w4 ⟨rfl, hx⟩
  have hE4 := (hE3.alloc _).trans hx
  have HC4 := Lib.hid (HC3.out.ext (Ext.trans ((Ext.refl _).alloc _) hx))
  clear hx hE3 HC3 hb hs
  go_wp2_with fail
  refine (call_a _).mono ?_
  rintro e w5 ⟨rfl, hx⟩
  have hT : Blk w5 w4.heap.size #[.int .i64 1, .int .i64 1, .int .i64 3, .int .i64 101, .int .i64 5, .int .i64 9, .int .i64 2, .int .i64 7, .int .i64 0, .int .i64 0, .int .i64 0, .int .i64 40] := (Blk.new w4 _ _).ext hx
  have hs : Ext w5 (w5.alloc (.cells #[.int .i64 101, .int .i64 3, .int .i64 303, .int .i64 5] 59)) := (Ext.refl w5).alloc _
  have hE5 := (hE4.alloc _).trans hx
  have HC5 := Lib.hid (HC4.out.ext (Ext.trans ((Ext.refl _).alloc _) hx))
  have t0 := (hT.ext hs).cell 0 (v := .int .i64 1) rfl
  have t1 := (hT.ext hs).cell 1 (v := .int .i64 1) rfl
  have t2 := (hT.ext hs).cell 2 (v := .int .i64 3) rfl
  have t3 := (hT.ext hs).cell 3 (v := .int .i64 101) rfl
  have t4 := (hT.ext hs).cell 4 (v := .int .i64 5) rfl
  have t5 := (hT.ext hs).cell 5 (v := .int .i64 9) rfl
  have t6 := (hT.ext hs).cell 6 (v := .int .i64 2) rfl
  have t7 := (hT.ext hs).cell 7 (v := .int .i64 7) rfl
  have t8 := (hT.ext hs).cell 8 (v := .int .i64 0) rfl
  have t9 := (hT.ext hs).cell 9 (v := .int .i64 0) rfl
  have t10 := (hT.ext hs).cell 10 (v := .int .i64 0) rfl
  have t11 := (hT.ext hs).cell 11 (v := .int .i64 40) rfl
  have HT := Lib.hid hT
  generalize w4.heap.size = kt at *
  clear hx hE4 HC4 hT hs
  go_wp2_with fail
  refine (call_r _).mono ?_
  rintro e w6 ⟨rfl, hx⟩
  have hs := Ext.trans ((Ext.refl w5).alloc (.cells #[.int .i64 101, .int .i64 3, .int .i64 303, .int .i64 5] 59)) hx
  have hE6 := hE5.trans hs
  have hA : Blk w6 w5.heap.size #[.int .i64 101, .int .i64 3, .int .i64 303, .int .i64 5] := (Blk.new w5 _ _).ext hx
  have hT := HT.out.ext hs
  have HC6 := Lib.hid (HasL.cons (hT.cell 3 (v := .int .i64 101) rfl) (HasL.cons (hT.cell 4 (v := .int .i64 5) rfl) (HasL.cons (hT.cell 7 (v := .int .i64 7) rfl) (HasL.cons (hT.cell 11 (v := .int .i64 40) rfl)
    (HasL.cons (hA.cell 0 (v := .int .i64 101) rfl) (HasL.cons (hA.cell 1 (v := .int .i64 3) rfl) (HasL.cons (hA.cell 2 (v := .int .i64 303) rfl) (HC5.out.ext hs))))))))
  generalize w5.heap.size = ka at *
  clear hx hE5 HC5 hs hA hT HT t0 t1 t2 t3 t4 t5 t6 t7 t8 t9 t10 t11
  go_wp2_with fail
  refine (law_leg true _ 3 3 _).mono ?_
  rintro e w7 ⟨k7, rfl, hb, hx⟩
  have hE7 := Ext.trans ((hE6.alloc _).alloc _) hx
  have hR : Blk w7 w6.heap.size #[.int .i64 1, .int .i64 7, .int .i64 1, .int .i64 2] := ((Blk.new w6 _ _).alloc _).ext hx
  have hs := (rd_new (w := w6.alloc _) (xs := [61, 0, 40]) (k := w6.heap.size + 1) (by simp) rfl (by decide)).ext hx
  have HC7 := Lib.hid (HasL.cons (hR.cell 1 (v := .int .i64 7) rfl) (HasL.cons (hR.cell 3 (v := .int .i64 2) rfl) (HC6.out.ext (Ext.trans (((Ext.refl _).alloc _).alloc _) hx))))
  clear hx hE6 HC6 hR
  generalize w6.heap.size = kr at *
  go_wp2_with fail
  refine (call_s k7 _ _ hb hs).mono ?_
  rintro e w8 ⟨sg, sc, a0, c0, a1, c1, rfl, ⟨s1, s2, s3, s4, s5⟩, hx⟩
  have hE8 := hE7.trans hx
  have HC8 := Lib.hid (HasL.cons s1 (HasL.cons s2 (HasL.cons s3 (HasL.cons s4 (HasL.cons s5 (HC7.out.ext hx))))))
  clear hx hE7 HC7 hb hs s1 s2 s3 s4 s5
  go_wp2_with fail
  refine (law_laws _).mono ?_
  rintro e w9 ⟨rfl, hx⟩
  have hE9 := hE8.trans hx
  have HC9 := Lib.hid (HC8.out.ext hx)
  clear hx hE8 HC8
  go_wp2_with fail
  refine (law_beds _).mono ?_
  rintro e w10 ⟨k10, rfl, -, hb, hx⟩
  have hE10 := hE9.trans hx
  have HC10 := Lib.hid (HC9.out.ext hx)
  clear hx hE9 HC9
  go_wp2_with fail
  refine (call_x k10 w10.heap.size (w10.heap.size + 1) (w10.heap.size + 1 + 1) _ _ (hb.ext (by exact ((((Ext.refl _).alloc _).alloc _).alloc _).alloc _)) (by exact (((Blk.new w10 _ _).alloc _).alloc _).alloc _) (by exact ((Blk.at (w10.heap.size + 1) (by simp)).alloc _).alloc _) (by exact (Blk.at (w10.heap.size + 1 + 1) (by simp)).alloc _) (by exact Blk.at _ (by simp))).mono ?_
  rintro e w11 ⟨la, lc, g, lsc, rfl, x1, hx⟩
  have hs : Ext w10 w11 := Ext.trans (((((Ext.refl _).alloc _).alloc _).alloc _).alloc _) hx
  have hE11 := hE10.trans hs
  have HC11 := Lib.hid (HasL.cons x1 (HC10.out.ext hs))
  clear hx hs hE10 HC10 x1 hb
  go_wp2_with fail
  refine (law_leg true _ 2 2 _).mono ?_
  rintro e w12 ⟨k12, rfl, hb, hx⟩
  have hE12 := Ext.trans (((hE11.alloc _).alloc _).alloc _) hx
  have hX : Blk w12 w11.heap.size #[.int .i64 1, .int .i64 1, .int .i64 3, .int .i64 101, .int .i64 6, .int .i64 6, .int .i64 4, .int .i64 4, .int .i64 0, .int .i64 0, .int .i64 0, .int .i64 40] := (((Blk.new w11 _ _).alloc _).alloc _).ext hx
  have hL : Blk w12 (w11.heap.size + 1) #[.int .i64 101, .int .i64 0, .int .i64 1, .slice la 5 lc, .slice (some ⟨g, 0, none⟩) 3 lsc, .bool true] := (Blk.ext ((Blk.at (w11.heap.size + 1) (by simp)).alloc _) hx)
  have hs := (rd_new (w := (w11.alloc _).alloc _) (xs := [61, 41]) (k := w11.heap.size + 1 + 1) (by simp) rfl (by decide)).ext hx
  have HC12 := Lib.hid (HasL.cons (hX.cell 4 (v := .int .i64 6) rfl) (HasL.cons (hX.cell 7 (v := .int .i64 4) rfl) (HasL.cons (hL.cell 4 (v := .slice (some ⟨g, 0, none⟩) 3 lsc) rfl) (HasL.cons (hL.cell 5 (v := .bool true) rfl) (HC11.out.ext (Ext.trans ((((Ext.refl _).alloc _).alloc _).alloc _) hx))))))
  clear hx hE11 HC11 hX hL
  generalize w11.heap.size = kx at *
  go_wp2_with fail
  refine (call_w k12 _ _ hb hs).mono ?_
  rintro e w13 ⟨wa, wc, rfl, hx⟩
  have hE13 := hE12.trans hx
  have HC13 := Lib.hid (HC12.out.ext hx)
  clear hx hE12 HC12 hb hs
  go_wp2_with fail
  refine (call_b _).mono ?_
  rintro e w14 ⟨rfl, hx⟩
  have hE14 := Ext.trans ((hE13.alloc _).alloc _) hx
  have HC14 := (HC13.out.ext (Ext.trans (((Ext.refl _).alloc _).alloc _) hx))
  clear hx hE13 HC13
  have f0 := HC14.hd
  replace HC14 := HC14.tl
  have f1 := HC14.hd
  replace HC14 := HC14.tl
  have f2 := HC14.hd
  replace HC14 := HC14.tl
  have f3 := HC14.hd
  replace HC14 := HC14.tl
  have f4 := HC14.hd
  replace HC14 := HC14.tl
  have f5 := HC14.hd
  replace HC14 := HC14.tl
  have f6 := HC14.hd
  replace HC14 := HC14.tl
  have f7 := HC14.hd
  replace HC14 := HC14.tl
  have f8 := HC14.hd
  replace HC14 := HC14.tl
  have f9 := HC14.hd
  replace HC14 := HC14.tl
  have f10 := HC14.hd
  replace HC14 := HC14.tl
  have f11 := HC14.hd
  replace HC14 := HC14.tl
  have f12 := HC14.hd
  replace HC14 := HC14.tl
  have f13 := HC14.hd
  replace HC14 := HC14.tl
  have f14 := HC14.hd
  replace HC14 := HC14.tl
  have f15 := HC14.hd
  replace HC14 := HC14.tl
  have f16 := HC14.hd
  replace HC14 := HC14.tl
  have f17 := HC14.hd
  replace HC14 := HC14.tl
  have f18 := HC14.hd
  replace HC14 := HC14.tl
  have f19 := HC14.hd
  replace HC14 := HC14.tl
  have f20 := HC14.hd
  replace HC14 := HC14.tl
  have f21 := HC14.hd
  replace HC14 := HC14.tl
  clear HC14
  go_wp2_with fail
  go_ret
  exact ⟨rfl, hE14⟩
end Go.Proofs.Ytmopadnkjlodnaa
namespace Go.Proofs.Ytmopadnkjlodnaa
open Go.RowKit Go.BigFrame
/-- What known() does. -/
def Knows : Prop := ∀ w, Calls Try.prog 14 #[] w fun e w' => e = .returned (.bool true) ∧ Ext w w'
set_option maxRecDepth 100000 in
set_option maxHeartbeats 2000000 in
theorem law_betters (HK : Hid Knows) (aln ald ahn ahd bln bld bhn bhd : Int) (w : World) : Calls Try.prog 7 #[.agg #[.int .i64 aln, .int .i64 ald, .int .i64 ahn, .int .i64 ahd], .agg #[.int .i64 bln, .int .i64 bld, .int .i64 bhn, .int .i64 bhd]] w fun e w' => e = .returned (.bool true) ∧ Ext w w' := by
  go_enter Try.func7, Try.ntmps7
  go_wp2_with fail
  refine (mean_Better ⟨⟨aln, ald⟩, ⟨ahn, ahd⟩⟩ ⟨⟨bln, bld⟩, ⟨bhn, bhd⟩⟩ _).mono ?_
  rintro e w1 ⟨rfl, hx⟩
  have hE1 := Ext.trans (((Ext.refl w).alloc _).alloc _) hx
  have hA : Blk w1 w.heap.size #[.int .i64 aln, .int .i64 ald, .int .i64 ahn, .int .i64 ahd] := ((Blk.new w _ _).alloc _).ext hx
  have hB : Blk w1 (w.heap.size + 1) #[.int .i64 bln, .int .i64 bld, .int .i64 bhn, .int .i64 bhd] := (Blk.at (w.heap.size + 1) (by simp)).ext hx
  have HA := Lib.hid hA
  have HB := Lib.hid hB
  have HE1 := Lib.hid hE1
  clear hE1
  obtain ⟨ra, hra⟩ : ∃ y, ranR ⟨⟨aln, ald⟩, ⟨ahn, ahd⟩⟩ = y := ⟨_, rfl⟩
  obtain ⟨rb, hrb⟩ : ∃ y, ranR ⟨⟨bln, bld⟩, ⟨bhn, bhd⟩⟩ = y := ⟨_, rfl⟩
  have hra' := Lib.hid hra
  have hrb' := Lib.hid hrb
  have a0 := hA.cell 0 (v := .int .i64 aln) rfl
  have a1 := hA.cell 1 (v := .int .i64 ald) rfl
  have a2 := hA.cell 2 (v := .int .i64 ahn) rfl
  have a3 := hA.cell 3 (v := .int .i64 ahd) rfl
  generalize w.heap.size = kb at *
  clear hA hB hra hrb hx
  cases ra
  · rw [bet_bad (.inl hra'.out)]
    go_wp2_with fail
    refine (ref_Range aln ald ahn ahd _).mono ?_
    rintro e w2 ⟨rfl, hx2⟩
    rw [hra'.out]
    have HE2 := Lib.hid (HE1.out.trans hx2)
    go_wp2_with fail
    refine (HK.out _).mono ?_
    rintro e w3 ⟨rfl, hx3⟩
    go_wp2_with fail
    go_ret
    exact ⟨rfl, HE2.out.trans hx3⟩
  cases rb
  · rw [bet_bad (.inr hrb'.out)]
    go_wp2_with fail
    refine (ref_Range aln ald ahn ahd _).mono ?_
    rintro e w2 ⟨rfl, hx2⟩
    rw [hra'.out]
    have HE2 := Lib.hid (HE1.out.trans hx2)
    have b0 := (HB.out.ext hx2).cell 0 (v := .int .i64 bln) rfl
    have b1 := (HB.out.ext hx2).cell 1 (v := .int .i64 bld) rfl
    have b2 := (HB.out.ext hx2).cell 2 (v := .int .i64 bhn) rfl
    have b3 := (HB.out.ext hx2).cell 3 (v := .int .i64 bhd) rfl
    go_wp2_with fail
    refine (ref_Range bln bld bhn bhd _).mono ?_
    rintro e w3 ⟨rfl, hx3⟩
    rw [hrb'.out]
    have HE3 := Lib.hid (HE2.out.trans hx3)
    go_wp2_with fail
    refine (HK.out _).mono ?_
    rintro e w4 ⟨rfl, hx4⟩
    go_wp2_with fail
    go_ret
    exact ⟨rfl, HE3.out.trans hx4⟩
  · rw [bet_ok hra'.out hrb'.out]
    go_wp2_with fail
    refine (ref_Range aln ald ahn ahd _).mono ?_
    rintro e w2 ⟨rfl, hx2⟩
    rw [hra'.out]
    have HE2 := Lib.hid (HE1.out.trans hx2)
    have b0 := (HB.out.ext hx2).cell 0 (v := .int .i64 bln) rfl
    have b1 := (HB.out.ext hx2).cell 1 (v := .int .i64 bld) rfl
    have b2 := (HB.out.ext hx2).cell 2 (v := .int .i64 bhn) rfl
    have b3 := (HB.out.ext hx2).cell 3 (v := .int .i64 bhd) rfl
    go_wp2_with fail
    refine (ref_Range bln bld bhn bhd _).mono ?_
    rintro e w3 ⟨rfl, hx3⟩
    rw [hrb'.out]
    have HE3 := Lib.hid (HE2.out.trans hx3)
    have hA3 := (HA.out.ext hx2).ext hx3
    have hB3 := (HB.out.ext hx2).ext hx3
    have c0 := hA3.cell 0 (v := .int .i64 aln) rfl
    have c1 := hA3.cell 1 (v := .int .i64 ald) rfl
    have d2 := hB3.cell 2 (v := .int .i64 bhn) rfl
    have d3 := hB3.cell 3 (v := .int .i64 bhd) rfl
    clear hA3 hB3
    go_wp2_with fail
    refine (ref_Less bhn bhd aln ald _).mono ?_
    rintro e w4 ⟨rfl, hx4⟩
    have HE4 := Lib.hid (HE3.out.trans hx4)
    have hA4 := ((HA.out.ext hx2).ext hx3).ext hx4
    have hB4 := ((HB.out.ext hx2).ext hx3).ext hx4
    have c2 := hA4.cell 2 (v := .int .i64 ahn) rfl
    have c3 := hA4.cell 3 (v := .int .i64 ahd) rfl
    have d0 := hB4.cell 0 (v := .int .i64 bln) rfl
    have d1 := hB4.cell 1 (v := .int .i64 bld) rfl
    clear hA4 hB4
    generalize lesW ⟨bhn, bhd⟩ ⟨aln, ald⟩ = l1
    go_wp2_with fail
    refine (ref_Less bln bld ahn ahd _).mono ?_
    rintro e w5 ⟨rfl, hx5⟩
    have HE5 := Lib.hid (HE4.out.trans hx5)
    generalize lesW ⟨bln, bld⟩ ⟨ahn, ahd⟩ = l2
    go_wp2_with fail
    refine (HK.out _).mono ?_
    rintro e w6 ⟨rfl, hx6⟩
    go_wp2_with fail
    go_ret
    exact ⟨rfl, HE5.out.trans hx6⟩
end Go.Proofs.Ytmopadnkjlodnaa
namespace Go.Proofs.Ytmopadnkjlodnaa
open Go.RowKit Go.BigFrame
theorem law_MeanBetters (aln ald ahn ahd bln bld bhn bhd : Int) (w : World) : Calls Try.prog 7 #[.agg #[.int .i64 aln, .int .i64 ald, .int .i64 ahn, .int .i64 ahd], .agg #[.int .i64 bln, .int .i64 bld, .int .i64 bhn, .int .i64 bhd]] w fun e w' => e = .returned (.bool true) ∧ Ext w w' :=
  law_betters (Lib.hid law_known) aln ald ahn ahd bln bld bhn bhd w
end Go.Proofs.Ytmopadnkjlodnaa
namespace Go.Proofs.Ytmopadnkjlodnaa
open Go.RowKit
inductive Shp where
  | int (k : IntKind)
  | bool
  | nil
  | pair (a b : Shp)
  | slice (n : Nat) (e : Shp)
/-- Cells are of a shape. -/
def Sat (w : World) : Shp → List Value → Prop
  | .int k, cs => ∃ n, cs = [.int k n] ∧ (Lit.int k n).wf = true
  | .bool, cs => ∃ b, cs = [.bool b]
  | .nil, cs => cs = []
  | .pair a b, cs => ∃ xs ys, cs = xs ++ ys ∧ Sat w a xs ∧ Sat w b ys
  | .slice n e, cs => ∃ a len cap, cs = [.slice a len cap] ∧ (a = none → len = 0 ∧ cap = 0) ∧ (len ≤ cap ∧ cap ≤ maxLen) ∧ ∀ i, i < len → ∃ b o xs, a = some ⟨b, o, none⟩ ∧ xs.length = n ∧ (∀ j, j < n → w.cell? ⟨b, o + (i * n + j), none⟩ = xs[j]?) ∧ Sat w e xs
def shpF (P : Program) (g : Shp → TypeId → Bool) (total : Nat) : List Field → Nat → Shp → Bool
  | [], off, .nil => decide (off = total)
  | f :: fs, off, .pair a b => decide (f.offset = off) && g a f.type && shpF P g total fs (off + P.cellsOf f.type) b
  | _, _, _ => false
def shpA (g : Shp → TypeId → Bool) (e c total : Nat) : Nat → Nat → Shp → Bool
  | 0, i, .nil => decide (i * c = total)
  | n + 1, i, .pair a b => g a e && shpA g e c total n (i + 1) b
  | _, _, _ => false
/-- A type is of a shape. -/
def shpB (P : Program) : Nat → Shp → TypeId → Bool
  | 0, _, _ => false
  | f + 1, s, t =>
    match P.underlying t with
    | some (.int k) => (match s with | .int k' => decide (k' = k) | _ => false)
    | some .bool => (match s with | .bool => true | _ => false)
    | some (.slice e) => (match s with | .slice n s' => decide (P.cellsOf e = n) && decide (0 < n) && shpB P f s' e | _ => false)
    | some (.struct fs) => shpF P (shpB P f) (P.cellsOf t) fs.toList 0 s
    | some (.array n e) => shpA (shpB P f) e (P.cellsOf e) (P.cellsOf t) n 0 s
    | _ => false
section
variable {H : Type} {enc : TypeId × Value → H} {P : Program} {w : World} {spare : Nat → Bool} {held : Bool}
theorem sat_fields {g : Shp → TypeId → Bool} {cs : List Value} {n : Nat} {fs : List Field}
    (ih : ∀ s t cs x, g s t = true → DataW.trod enc P w 0 spare held n t cs = some x → Sat w s cs) :
    ∀ (l : List Field) (i off : Nat) (s : Shp), (∀ j, l[j]? = fs[i + j]?) → (∀ (i : Nat) (f : Field), fs[i]? = some f → ∃ x, DataW.trod enc P w 0 spare held n f.type ((cs.drop f.offset).take (P.cellsOf f.type)) = some x) →
      shpF P g cs.length l off s = true → Sat w s (cs.drop off)
  | [], _, off, s, _, _, h => by
    cases s <;> simp only [shpF, Bool.false_eq_true] at h
    have : off = cs.length := by simpa using h
    subst this
    simp [Sat]
  | f :: l, i, off, s, hl, hf, h => by
    cases s <;> simp only [shpF, Bool.false_eq_true, Bool.and_eq_true, decide_eq_true_eq] at h
    rename_i a b
    obtain ⟨⟨rfl, h1⟩, h2⟩ := h
    obtain ⟨x, hx⟩ := hf i f (by have := hl 0; simpa using this.symm)
    have ha := ih a f.type _ _ h1 hx
    have hb := sat_fields ih l (i + 1) _ b (fun j => by have := hl (j + 1); rw [Nat.add_assoc, Nat.add_comm 1 j]; simpa using this) hf h2
    refine ⟨_, _, ?_, ha, hb⟩
    rw [← List.drop_drop, List.take_append_drop]
theorem sat_elems {g : Shp → TypeId → Bool} {cs : List Value} {n e c : Nat}
    (ih : ∀ s t cs x, g s t = true → DataW.trod enc P w 0 spare held n t cs = some x → Sat w s cs) :
    ∀ (m i : Nat) (s : Shp), (∀ j, i ≤ j → j < i + m → ∃ x, DataW.trod enc P w 0 spare held n e ((cs.drop (j * c)).take c) = some x) →
      shpA g e c cs.length m i s = true → Sat w s (cs.drop (i * c))
  | 0, i, s, _, h => by
    cases s <;> simp only [shpA, Bool.false_eq_true] at h
    have : i * c = cs.length := by simpa using h
    rw [this]
    simp [Sat]
  | m + 1, i, s, hf, h => by
    cases s <;> simp only [shpA, Bool.false_eq_true, Bool.and_eq_true] at h
    rename_i a b
    obtain ⟨h1, h2⟩ := h
    obtain ⟨x, hx⟩ := hf i (Nat.le_refl _) (by omega)
    have ha := ih a e _ _ h1 hx
    have hb := sat_elems ih m (i + 1) b (fun j h1 h2 => hf j (by omega) (by omega)) h2
    refine ⟨_, _, ?_, ha, hb⟩
    rw [Nat.add_mul, Nat.one_mul, ← List.drop_drop, List.take_append_drop]
theorem sat_of : ∀ (f : Nat) (s : Shp) (t : TypeId) (fuel : Nat) (cs : List Value) (x : DataW H × List MemPlace), shpB P f s t = true → DataW.trod enc P w 0 spare held fuel t cs = some x → Sat w s cs
  | 0, _, _, _, _, _, h, _ => by simp [shpB] at h
  | f + 1, s, t, fuel, cs, x, h, hx => by
    unfold shpB at h
    split at h
    · rename_i k ht
      split at h
      · have : _ = k := of_decide_eq_true h
        subst this
        obtain ⟨n, rfl, -, hw⟩ := DataW.trod_int ht hx
        exact ⟨n, rfl, hw⟩
      · cases h
    · rename_i ht
      split at h
      · obtain ⟨b, rfl, -⟩ := DataW.trod_bool ht hx
        exact ⟨b, rfl⟩
      · cases h
    · rename_i e ht
      split at h
      · rename_i n s'
        simp only [Bool.and_eq_true, decide_eq_true_eq] at h
        obtain ⟨⟨rfl, h0⟩, h1⟩ := h
        rcases DataW.trod_slice ht hx with ⟨rfl, -⟩ | ⟨a, len, cap, elems, rest, m, -, rfl, -, -, hlc, hcm, hlen, hel, -, -⟩
        · exact ⟨none, 0, 0, rfl, fun _ => ⟨rfl, rfl⟩, ⟨Nat.le_refl _, Nat.zero_le _⟩, fun i hi => absurd hi (by omega)⟩
        · refine ⟨some a, len, cap, rfl, fun h => (by cases h), ⟨hlc, hcm⟩, fun i hi => ?_⟩
          have he := hel i hi
          rw [List.getElem?_eq_getElem (by omega), Option.bind_eq_some_iff] at he
          obtain ⟨xs, hc, ht'⟩ := he
          obtain ⟨-, hl, hcell⟩ := World.cells?_some hc
          have hspot : a.spot = none := by
            have he0 := hel 0 (by omega)
            rw [List.getElem?_eq_getElem (by omega), Option.bind_eq_some_iff] at he0
            obtain ⟨ys, hc0, -⟩ := he0
            obtain ⟨-, hl0, hcell0⟩ := World.cells?_some hc0
            have hd := hcell0 0 h0
            rw [List.getElem?_eq_getElem (by omega)] at hd
            have := World.cell?_spot hd
            simpa [Addr.add] using this
          obtain ⟨b, o, sp⟩ := a
          simp only at hspot
          subst hspot
          refine ⟨b, o, xs, rfl, hl, fun j hj => ?_, sat_of f s' e m xs _ h1 ht'⟩
          have := hcell j hj
          rw [addr_add, addr_add, Nat.add_assoc] at this
          exact this
      · cases h
    · rename_i fs ht
      obtain ⟨xs, n, -, -, hl, hlen, hf⟩ := DataW.trod_struct ht hx
      rw [← hl] at h
      have := sat_fields (cs := cs) (n := n) (fs := fs.toList) (fun s t cs x => sat_of f s t n cs x) fs.toList 0 0 s (fun j => by simp) (fun i f hfi => by
        have h1 := hf i f (by simpa using hfi)
        have hlt : i < xs.length := by rw [hlen]; have := (List.getElem?_eq_some_iff.1 hfi).1; simpa using this
        rw [List.getElem?_eq_getElem hlt] at h1
        exact ⟨_, h1⟩) h
      simpa using this
    · rename_i n e ht
      obtain ⟨xs, m, -, -, hl, hlen, hf⟩ := DataW.trod_array ht hx
      rw [← hl] at h
      have := sat_elems (cs := cs) (n := m) (e := e) (c := P.cellsOf e) (fun s t cs x => sat_of f s t m cs x) n 0 s (fun j _ hj => by
        have h1 := hf j (by omega)
        rw [List.getElem?_eq_getElem (by omega)] at h1
        exact ⟨_, h1⟩) h
      simpa using this
    · cases h
theorem sat_arg {f : Nat} {s : Shp} {t : TypeId} {v : Value} {d : DataW H} {ps : List MemPlace} (hs : shpB P f s t = true) (h : DataW.Trod enc P w 0 spare held t v d ps) : Sat w s v.cells.toList := by
  obtain ⟨fuel, hf⟩ := h
  exact sat_of f s t fuel _ _ hs hf
end
theorem list_of {α : Type} {p : Nat → α → Prop} : ∀ n, (∀ i, i < n → ∃ x, p i x) → ∃ l : List α, l.length = n ∧ ∀ i, (h : i < l.length) → p i l[i]
  | 0, _ => ⟨[], rfl, fun i h => absurd h (by simp)⟩
  | n + 1, h => by
    obtain ⟨l, hl, hp⟩ := list_of n (fun i hi => h i (by omega))
    obtain ⟨x, hx⟩ := h n (by omega)
    refine ⟨l ++ [x], by simp [hl], fun i hi => ?_⟩
    by_cases hlt : i < l.length
    · rw [List.getElem_append_left hlt]; exact hp i hlt
    · have : i = n := by simp [hl] at hi; omega
      subst this
      rw [List.getElem_append_right (by omega)]
      simpa [hl] using hx
theorem i64_of_wf {x : Int} (h : (Lit.int .i64 x).wf = true) : I64 x := by
  simp [Lit.wf, IntKind.min, IntKind.max, IntKind.signed, IntKind.bits] at h
  unfold I64
  omega
/-- A slice of integers. -/
theorem sat_ints {w : World} {cs : List Value} (h : Sat w (.slice 1 (.int .i64)) cs) : ∃ a cap, ∃ l : List Int, cs = [.slice a l.length cap] ∧ (a = none → l.length = 0 ∧ cap = 0) ∧ l.length ≤ maxLen ∧ CellsAt w .i64 a l ∧ ∀ x ∈ l, I64 x := by
  obtain ⟨a, len, cap, rfl, hn, hl, h⟩ := h
  obtain ⟨l, rfl, hp⟩ := list_of (p := fun i (x : Int) => I64 x ∧ ∃ b o, a = some ⟨b, o, none⟩ ∧ w.cell? ⟨b, o + i, none⟩ = some (.int .i64 x)) len (fun i hi => by
    obtain ⟨b, o, xs, rfl, hlen, hc, n, rfl, hw⟩ := h i hi
    exact ⟨n, i64_of_wf hw, b, o, rfl, by have := hc 0 (by omega); simpa using this⟩)
  exact ⟨a, cap, l, rfl, hn, Nat.le_trans hl.1 hl.2, fun i hi => (hp i hi).2, fun x hx => by
    obtain ⟨i, hi, rfl⟩ := List.mem_iff_getElem.1 hx
    exact (hp i hi).1⟩
end Go.Proofs.Ytmopadnkjlodnaa
namespace Go.Proofs.Ytmopadnkjlodnaa.meanBettersDone
open Go.ChangeShapes Go.WideShapes Go.ChangeAt Go.RowKit
theorem own : ownKnob Try.prog.godebug = none := by kernel_rfl
theorem laidOut : laidOutB Try.prog = true := by kernel_rfl
set_option maxRecDepth 100000 in
set_option maxHeartbeats 2000000 in
theorem lifted (os : Os) (started : os.Started) (H : Type) (enc : TypeId × Value → H) :
    ReturnsInHanded {} Try.checked os 7 .any (Rows.meanBettersSpec.pre6 enc Try.prog Try.f7 Rows.meanBettersRow.domain false) (Rows.meanBettersSpec.post enc Try.prog Try.f7 false true false false) := by
  refine returnsInHanded_of_change (C := Try.checked) own started (by kernel_rfl) Try.func7
    (ChangeSpec.witness6 (enc := enc) (C := Try.checked) false ⟨#[], #[.agg #[.int .i64 0, .int .i64 0, .int .i64 0, .int .i64 0], .agg #[.int .i64 0, .int .i64 0, .int .i64 0, .int .i64 0]], []⟩ 8 (by kernel_rfl) (by kernel_rfl) (by kernel_rfl) (by kernel_rfl)) ?_
  intro W base args ds gs before hval0 hW hcnd _
  have hval : ∀ (j : Nat) t v, Try.f7.params[j]? = some t → args[j]? = some v → Value.okWide Try.prog W .any base t v := hval0
  have hW' := hW
  obtain ⟨p, q, hA0, hV, rfl, hfz, hnd⟩ := hW
  have hA : DataW.TrodAll enc Try.prog W 0 (fun _ => true) true Try.f7.params.toList args.toList ds p := hA0
  rw [Try.params7] at hA hval
  obtain ⟨v0, vs0, d0, ds0, p0, q0, hargs, rfl, rfl, h0, r0⟩ := trodAll_cons hA
  obtain ⟨v1, vs1, d1, ds1, p1, q1, rfl, rfl, rfl, h1, r1⟩ := trodAll_cons r0
  obtain ⟨rfl, rfl, rfl⟩ := trodAll_nil r1
  obtain rfl : args = #[v0, v1] := by cases args; simp_all
  obtain ⟨rfl, rfl⟩ := trodVars_none hV
  have k0 := h0
  have lt0 : ∀ x ∈ p0, x.block < W.heap.size := by obtain ⟨m, hm⟩ := h0; exact DataW.trod_lt m _ _ _ hm
  have s0 := sat_arg (f := 9) (s := .pair (.pair (.int .i64) (.pair (.int .i64) .nil)) (.pair (.pair (.int .i64) (.pair (.int .i64) .nil)) .nil)) (by kernel_rfl) h0
  obtain ⟨cs0, rfl, hcs0⟩ := okWide_struct Try.underlying59 (hval 0 59 v0 rfl rfl)
  obtain ⟨_, _, e0, ⟨_, _, rfl, ⟨y0, rfl, -⟩, _, _, rfl, ⟨y1, rfl, -⟩, rfl⟩, _, _, rfl, ⟨_, _, rfl, ⟨y2, rfl, -⟩, _, _, rfl, ⟨y3, rfl, -⟩, rfl⟩, rfl⟩ := s0
  obtain rfl : cs0 = #[.int .i64 y0, .int .i64 y1, .int .i64 y2, .int .i64 y3] := by
    have : (Value.agg cs0).cells.toList = cs0.toList := rfl
    rw [this] at e0
    cases cs0; simpa using e0
  have k1 := h1
  have lt1 : ∀ x ∈ p1, x.block < W.heap.size := by obtain ⟨m, hm⟩ := h1; exact DataW.trod_lt m _ _ _ hm
  have s1 := sat_arg (f := 9) (s := .pair (.pair (.int .i64) (.pair (.int .i64) .nil)) (.pair (.pair (.int .i64) (.pair (.int .i64) .nil)) .nil)) (by kernel_rfl) h1
  obtain ⟨cs1, rfl, hcs1⟩ := okWide_struct Try.underlying59 (hval 1 59 v1 rfl rfl)
  obtain ⟨_, _, e1, ⟨_, _, rfl, ⟨z0, rfl, -⟩, _, _, rfl, ⟨z1, rfl, -⟩, rfl⟩, _, _, rfl, ⟨_, _, rfl, ⟨z2, rfl, -⟩, _, _, rfl, ⟨z3, rfl, -⟩, rfl⟩, rfl⟩ := s1
  obtain rfl : cs1 = #[.int .i64 z0, .int .i64 z1, .int .i64 z2, .int .i64 z3] := by
    have : (Value.agg cs1).cells.toList = cs1.toList := rfl
    rw [this] at e1
    cases cs1; simpa using e1
  clear hA0 hval0
  refine (law_MeanBetters y0 y1 y2 y3 z0 z1 z2 z3 W).mono fun e W' ⟨he, bel⟩ => ?_
  subst he
  exact ⟨_, rfl, _, _, _, [], _, [], hW', trodAll_mk1 (shut_bool Try.underlying4 _), (trodAll_cons_mk (Below.trod laidOut (by kernel_rfl) (of_decide_eq_true (by kernel_rfl)) k0 bel lt0) (trodAll_cons_mk (Below.trod laidOut (by kernel_rfl) (of_decide_eq_true (by kernel_rfl)) k1 bel lt1) trodAll_mk0)), rfl, Below.frame bel _, fun h => by cases h⟩
theorem over : Rows.meanBettersRow.holds Try.pinned (OpenSpec.ofChange Rows.meanBettersSpec) :=
  OpenClaim.holds_of_wide 7 Try.f7 rfl rfl rfl rfl rfl rfl rfl ⟨rfl, rfl, rfl, rfl, rfl⟩ rfl rfl rfl rfl rfl (by kernel_rfl) Try.func7 (by kernel_rfl)
    (of_decide_eq_true (by kernel_rfl)) (by unfold Func.isWrapper; first | (rw [if_pos (by decide +kernel)]; kernel_rfl) | (rw [if_neg (by decide +kernel)]; exact ⟨rfl, rfl⟩))
    (fun os started H enc _ => lifted os started H enc)
/-- The statement. -/
theorem proved : Rows.MeanBettersSaid := over
#print axioms proved
end Go.Proofs.Ytmopadnkjlodnaa.meanBettersDone
