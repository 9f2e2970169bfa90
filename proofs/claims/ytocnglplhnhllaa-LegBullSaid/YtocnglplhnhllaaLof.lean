/-
  The statement LegOffs: walked.
-/
import Derived.Test.YtocnglplhnhllaaKno
import Derived.Test.YtocnglplhnhllaaRfo
import Derived.Test.YtocnglplhnhllaaApp
namespace Go.Proofs.Ytocnglplhnhllaa
open Go.RowKit
def Toss.cells (o : Toss) : List Value := [.int .i64 o.bed, .int .i64 o.far]
theorem info_toss : (Try.prog.info? 91).map (fun i => (i.zero, i.size, i.bytes)) = some (some (.agg #[.int .i64 0, .int .i64 0]), 2, 16) := by kernel_rfl
theorem info_tosses : (Try.prog.info? 63).map (fun i => (i.zero, i.size, i.bytes)) = some (some (.slice none 0 0), 1, 24) := by kernel_rfl
theorem toss_length (l : List Toss) : (l.flatMap Toss.cells).length = l.length * 2 := by
  induction l with
  | nil => rfl
  | cons x l ih => simp only [List.flatMap_cons, List.length_append, ih, List.length_cons, Toss.cells, List.length_nil]; omega
theorem toss_get (l : List Toss) : ∀ (i : Nat) (h : i < l.length), (l.flatMap Toss.cells)[i * 2]? = some (.int .i64 l[i].bed) ∧ (l.flatMap Toss.cells)[i * 2 + 1]? = some (.int .i64 l[i].far) := by
  induction l with
  | nil => intro i h; exact absurd h (by simp)
  | cons x l ih =>
    intro i h
    cases i with
    | zero => exact ⟨rfl, rfl⟩
    | succ i =>
      have := ih i (by simpa using h)
      rw [List.flatMap_cons, show (i + 1) * 2 = i * 2 + 2 by omega]
      exact this
theorem TossAt.vals {w : World} {a : Option Addr} {l : List Toss} (h : TossAt w a l) : ∀ ad, a = some ad → ∀ j u, (l.flatMap Toss.cells)[j]? = some u → w.cell? (ad.add j) = some u := by
  intro ad ha j u hu
  have hj := (List.getElem?_eq_some_iff.1 hu).1
  rw [toss_length] at hj
  have hi : j / 2 < l.length := by omega
  obtain ⟨b, o, e, h0, h1⟩ := h (j / 2) hi
  rw [ha] at e
  cases e
  have hg := toss_get l (j / 2) hi
  rw [addr_add]
  rcases Nat.mod_two_eq_zero_or_one j with hm | hm
  · have e1 : j / 2 * 2 = j := by omega
    rw [e1] at hg h0
    rw [hg.1] at hu
    cases hu
    exact h0
  · have e1 : j / 2 * 2 + 1 = j := by omega
    rw [Nat.add_assoc, e1] at h1
    rw [e1] at hg
    rw [hg.2] at hu
    cases hu
    exact h1
theorem toss_one (l : List Toss) : ∀ u ∈ l.flatMap Toss.cells, u.oneCell' = true := by
  intro u hu
  obtain ⟨x, _, hx⟩ := List.mem_flatMap.1 hu
  simp [Toss.cells] at hx
  rcases hx with rfl | rfl <;> rfl
theorem own_toss {w : World} {base : Nat} {v : Value} {l : List Toss} (h : w.ownsRow base 91 2 v l.length (l.flatMap Toss.cells)) : ∃ a c, v = .slice a l.length c ∧ TossAt w a l := by
  have hc := fun g (hg : v.ownBlock = some g) => World.ownsRow.cells (w := w) (g := g) h hg
  obtain ⟨h1, ⟨e, h2⟩ | ⟨g, cap, cur, e, h2, h3, h4⟩⟩ := h
  · have : l = [] := List.length_eq_zero_iff.1 h2
    subst this
    exact ⟨none, 0, e, fun i hi => absurd hi (by simp)⟩
  · refine ⟨some ⟨g, 0, none⟩, cap, e, fun i hi => ⟨g, 0, rfl, ?_, ?_⟩⟩
    · have := hc g (by rw [e]; rfl) (i * 2) _ (toss_get l i hi).1
      rwa [addr_add] at this
    · have := hc g (by rw [e]; rfl) (i * 2 + 1) _ (toss_get l i hi).2
      rwa [addr_add] at this
/-- Rounds as they come in: inner slices that are nil are empty. -/
def RoundsIn (w : World) (a : Option Addr) (rs : List (List Toss)) : Prop :=
  ∀ i, (h : i < rs.length) → ∃ b o a' c', a = some ⟨b, o, none⟩ ∧ w.cell? ⟨b, o + i, none⟩ = some (.slice a' rs[i].length c') ∧ TossAt w a' rs[i] ∧ (a' = none → rs[i].length = 0 ∧ c' = 0)
theorem RoundsIn.rounds {w : World} {a : Option Addr} {rs : List (List Toss)} (h : RoundsIn w a rs) : RoundsAt w a rs := fun i hi => by
  obtain ⟨b, o, a', c', e, h1, h2, _⟩ := h i hi
  exact ⟨b, o, a', c', e, h1, h2⟩
/-- Copies of rounds, each a row of its own. -/
structure Rows2 (w : World) (base : Nat) (v : Value) (rs : List (List Toss)) (vs : List Value) : Prop where
  outer : w.ownsRow base 63 1 v rs.length vs
  inner : ∀ i, (h : i < rs.length) → ∃ u, vs[i]? = some u ∧ w.ownsRow base 91 2 u rs[i].length (rs[i].flatMap Toss.cells)
theorem Rows2.ext {w w' : World} {base : Nat} {v : Value} {rs : List (List Toss)} {vs : List Value} (h : Rows2 w base v rs vs) (hx : Ext w w') : Rows2 w' base v rs vs :=
  ⟨own_chg h.outer (hx.chg fun _ => False) (fun _ _ => id), fun i hi => let ⟨u, e, o⟩ := h.inner i hi; ⟨u, e, own_chg o (hx.chg fun _ => False) (fun _ _ => id)⟩⟩
theorem Rows2.rounds {w : World} {base : Nat} {v : Value} {rs : List (List Toss)} {vs : List Value} (h : Rows2 w base v rs vs) : ∃ a c, v = .slice a rs.length c ∧ RoundsAt w a rs := by
  have hc := fun g (hg : v.ownBlock = some g) => World.ownsRow.cells (w := w) (g := g) h.outer hg
  have hin := h.inner
  obtain ⟨h1, ⟨e, h2⟩ | ⟨g, cap, cur, e, h2, h3, h4⟩⟩ := h.outer
  · exact ⟨none, 0, by rw [e, h2], fun i hi => absurd hi (by omega)⟩
  · refine ⟨some ⟨g, 0, none⟩, cap, e, fun i hi => ?_⟩
    obtain ⟨u, hu, ho⟩ := hin i hi
    obtain ⟨a', c', rfl, ht⟩ := own_toss ho
    have := hc g (by rw [e]; rfl) i _ hu
    rw [addr_add] at this
    exact ⟨g, 0, a', c', rfl, this, ht⟩
set_option maxRecDepth 100000 in
set_option maxHeartbeats 2000000 in
theorem law_LegOffs (players : Int) (rs : List (List Toss)) (a : Option Addr) (c : Nat) (w : World) (hA : RoundsIn w a rs) (hlen : rs.length ≤ 9223372036854775807) (hb : ∀ r ∈ rs, (∀ x ∈ r, I64 x.bed) ∧ r.length ≤ 9223372036854775807) :
    Calls Try.prog 6 #[.int .i64 players, .slice a rs.length c] w fun e w' => e = .returned (.bool true) ∧ Ext w w' := by
  have HA := Lib.hid hA
  have HB := Lib.hid hb
  clear hA hb
  obtain ⟨T, hT⟩ : ∃ T, offS players rs = T := ⟨_, rfl⟩
  have HT := Lib.hid hT
  clear hT
  obtain ⟨who, er⟩ := T
  go_enter Try.func6, Try.ntmps6
  go_wp2
  go_loopw [5, 6] (fun v i wr => ∃ (k : Nat) (vs : List Value), k ≤ rs.length ∧ i = .int .i64 k ∧ (0 < k → rs.length ≤ 55) ∧ Rows2 wr w.heap.size v (rs.take k) vs ∧ Ext w wr) (fun _ i _ => rs.length - (intOf i).toNat)
  case atStart => exact ⟨0, [], Nat.zero_le _, rfl, fun h => absurd h (by omega), ⟨own_empty (by simp) (by simp), fun i hi => absurd hi (by simp)⟩, (Ext.refl w).alloc _⟩
  case round =>
    obtain ⟨k, vs, hk, rfl, h55, hR, hx⟩ := hrel
    have HR := Lib.hid hR
    have htl : (rs.take k).length = k := by simp; omega
    have HTL := Lib.hid htl
    have hvs := hR.outer.1
    clear hR htl
    have hsz := hx.size
    by_cases hlt : k < rs.length
    · obtain ⟨b, o, a', c', rfl, hc0, ht, hnil⟩ := HA.out k hlt
      replace hc0 := hx.cell hc0
      have hbl0 := lt_of_cell hc0
      have HTo := Lib.hid (ht.ext hx)
      have HNil := Lib.hid hnil
      have htk : rs.take (k + 1) = rs.take k ++ [rs[k]] := List.take_succ_eq_append_getElem hlt
      have HTK := Lib.hid htk
      clear ht hnil htk
      generalize rs[k] = r at *
      by_cases h5 : 55 < rs.length
      · go_wp2_with fail
        refine (law_known _).mono ?_
        rintro e w1 ⟨rfl, hx1⟩
        go_wp2
        go_ret
        exact ⟨rfl, hx.trans hx1⟩
      by_cases h10 : 10 < r.length
      · go_wp2_with fail
        refine (law_known _).mono ?_
        rintro e w1 ⟨rfl, hx1⟩
        go_wp2
        go_ret
        exact ⟨rfl, hx.trans hx1⟩
      go_wp2_with (at_builtin; refine wp_append_vals rfl _ _ 63 91 _ 2 16 rfl info_toss (by kernel_rfl) rfl (by decide) w.heap.size _ 0 [] rfl (own_empty rfl hsz) a' r.length c' (r.flatMap Toss.cells) rfl HNil.out (toss_length r) (TossAt.vals (HTo.out.ext ((Ext.refl wr).alloc _))) (toss_one r) (by omega) (by omega) (by simp; omega) ?_)
      intro v1 w1 ho1 hg1
      have ho1' : w1.ownsRow w.heap.size 91 2 v1 r.length (r.flatMap Toss.cells) := by simpa using ho1
      have hC1 := grown_chg hg1
      have hx1 : Ext wr w1 := Chg.to_ext ((Ext.refl wr).alloc _) hC1 (fun i e => by cases e; simp)
      obtain ⟨ia, ic, rfl, -⟩ := own_toss ho1'
      have HO1 := Lib.hid ho1'
      have HR1 := Lib.hid (HR.out.ext hx1)
      have hsz1 : w.heap.size ≤ w1.heap.size := by have := hx1.size; omega
      clear ho1 ho1' hg1 hC1
      have hx2 := (Ext.refl w1).alloc (.cells #[.slice ia r.length ic] 63)
      have HR2 := Lib.hid (HR1.out.ext hx2)
      have HO2 := Lib.hid (own_chg HO1.out (hx2.chg fun _ => False) (fun _ _ => id))
      go_wp2_with (at_builtin; refine wp_append_vals rfl _ _ 62 63 _ 1 24 rfl info_tosses (by kernel_rfl) rfl (by decide) w.heap.size _ k vs rfl (by have := HR2.out.outer; rw [HTL.out] at this; exact this) (some ⟨w1.heap.size, 0, none⟩) 1 1 [.slice ia r.length ic] rfl (fun h => by cases h) rfl (fun ad h j u hj => by cases h; match j, hj with | 0, hj => (simp at hj; subst hj; simp [Addr.add, go_sem])) (fun u hu => by simp at hu; subst hu; rfl) (by omega) (by omega) (by simp; omega) ?_)
      intro v2 w2 ho2 hg2
      have hC2 := grown_chg hg2
      have hlt2 := own_lt HR2.out.outer
      have hx3 : Ext w w2 := Chg.to_ext ((hx.trans hx1).trans hx2) hC2 (fun i e => (hlt2 i e).1)
      have hR3 : Rows2 w2 w.heap.size v2 (rs.take (k + 1)) (vs ++ [.slice ia r.length ic]) := by
        refine ⟨?_, fun i hi => ?_⟩
        · have hl : (rs.take (k + 1)).length = k + 1 := by rw [HTK.out, List.length_append, HTL.out]; rfl
          rw [hl]; exact ho2
        · have hvl : vs.length = k := by have := HR.out.outer.1; rw [HTL.out] at this; omega
          by_cases hik : i < k
          · have hi' : i < (rs.take k).length := by rw [HTL.out]; exact hik
            obtain ⟨u, hu, ho⟩ := HR2.out.inner i hi'
            have he : (rs.take (k + 1))[i] = (rs.take k)[i] := by rw [List.getElem_take, List.getElem_take]
            rw [he]
            exact ⟨u, by rw [List.getElem?_append_left (by omega)]; exact hu, own_chg ho hC2 (fun j hj e => own_ne ho HR2.out.outer (by decide) j hj e)⟩
          · obtain rfl : i = k := by simp [HTK.out, HTL.out] at hi; omega
            have he : (rs.take (i + 1))[i] = r := by simp [HTK.out, HTL.out]
            rw [he]
            exact ⟨_, by rw [List.getElem?_append_right (by omega), hvl]; simp, own_chg HO2.out hC2 (fun j hj e => own_ne HO2.out HR2.out.outer (by decide) j hj e)⟩
      have HR3 := Lib.hid hR3
      clear ho2 hg2 hC2 hlt2 hR3 hx2
      go_wp2
      go_roundw
      case rel => exact ⟨k + 1, _, by omega, by go_num, fun _ => by omega, HR3.out, hx3⟩
      case measure => simp [intOf]; omega
    · obtain rfl : k = rs.length := by omega
      have hall : rs.take rs.length = rs := List.take_of_length_le (Nat.le_refl _)
      have hR := HR.out
      rw [hall] at hR
      obtain ⟨ra, rc, rfl, hra⟩ := hR.rounds
      have hP := leg_Off players rs ra rc wr hra hlen (fun r hr => (HB.out r hr).1) _ HT.out
      have HP := Lib.hid hP
      clear hP hR hall hra
      go_wp2_with fail
      refine HP.out.mono ?_
      rintro e w1 ⟨rfl, hx1⟩
      have hE1 := hx.trans hx1
      have hQ := ref_Off players rs a c w1 ((HA.out.rounds).ext hE1) hlen (fun r hr => (HB.out r hr).1) _ HT.out
      have HQ := Lib.hid hQ
      clear hQ
      go_wp2_with fail
      refine HQ.out.mono ?_
      rintro e w2 ⟨rfl, hx2⟩
      go_wp2_with fail
      refine (law_known _).mono ?_
      rintro e w3 ⟨rfl, hx3⟩
      go_wp2
      go_ret
      exact ⟨rfl, (hE1.trans hx2).trans hx3⟩
end Go.Proofs.Ytocnglplhnhllaa
