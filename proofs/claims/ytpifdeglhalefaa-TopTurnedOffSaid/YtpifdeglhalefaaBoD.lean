/-
  Package board: whether the lines of a board are valid.
-/
import Derived.Test.YtpifdeglhalefaaBoC
namespace Go.Proofs.Ytpifdeglhalefaa
open Go.RowKit Go.BigFrame
attribute [local go_sem] Later.cell Later.frozen
def badP (p : Pt) : Bool := !ins (-5000) 5000 [p.x, p.y] || (p.x == 0 && p.y == 0)
def ptAt (l : List Pt) (i : Nat) : Pt := l.getD i ⟨0, 0⟩
def linkB (l : List Pt) (i : Nat) : Bool := partP (ptAt l i) (ptAt l ((i + 1) % l.length)) == 1 && (decide (l.length ≤ i + 1) || befP (ptAt l 0) (ptAt l i) (ptAt l ((i + 1) % l.length)))
def linesB (l : List Pt) : Bool := decide (3 ≤ l.length) && (!l.any badP && (List.range l.length).all (linkB l))
theorem ins_two {a b x y : Int} : ins a b [x, y] = true ↔ (a ≤ x ∧ x ≤ b) ∧ (a ≤ y ∧ y ≤ b) := by
  simp only [ins, out1, List.any_cons, List.any_nil, Bool.or_false, Bool.not_or, Bool.and_eq_true, Bool.not_eq_true', decide_eq_false_iff_not]; omega
theorem areLines1 (x : Pt) (w : World) : Calls Try.prog 104 #[x.agg] w fun e w' => e = .returned (.bool (badP x)) ∧ Ext w w' := by
  have HK := Lib.hid (fun W => brd_isPoint x W)
  obtain ⟨rp, hrp⟩ : ∃ c, badP x = c := ⟨_, rfl⟩
  rw [hrp]
  obtain ⟨a, b⟩ := x
  have HP := Lib.hid hrp
  unfold Pt.agg at *
  clear hrp
  simp only at HK
  go_enter Try.func104, Try.ntmps104
  go_wp2_with fail
  refine (HK.out _).mono ?_
  rintro e w1 ⟨rfl, hx1⟩
  have hx := ((Ext.refl w).alloc _).trans hx1
  have hb1 : Blk w1 w.heap.size #[.int .i64 a, .int .i64 b] := (Blk.new w _ _).ext hx1
  have m0 := hb1.cell 0 (v := .int .i64 a) rfl
  have m1 := hb1.cell 1 (v := .int .i64 b) rfl
  clear hx1
  cases h1 : ins (-5000) 5000 [a, b]
  · have e : rp = true := by rw [← HP.out]; simp [badP, h1]
    subst e
    go_wp2
    go_ret
    exact ⟨rfl, hx⟩
  · have e : rp = (a == 0 && b == 0) := by rw [← HP.out]; simp [badP, h1]
    subst e
    go_wp2
    all_goals (go_ret; exact ⟨ret_bool (by simp_all), hx⟩)
theorem enters_areLines1 : Enters Try.prog 104 := enters_of Try.func104 (by kernel_rfl) rfl
theorem ok_of_bad {p : Pt} (h : badP p = false) : p.ok := by
  unfold badP at h
  simp only [Bool.or_eq_false_iff, Bool.not_eq_false'] at h
  exact ins_two.1 h.1
set_option maxHeartbeats 2000000 in
theorem brd_areLines (l : List Pt) (a : Option Addr) (c : Nat) (w : World) (hl : l.length ≤ 1000000) (hL : PtsAt w a l) :
    Calls Try.prog 76 #[.slice a l.length c] w fun e w' => e = .returned (.bool (linesB l)) ∧ Ext w w' := by
  have HL := Lib.hid hL
  obtain ⟨rp, hrp⟩ : ∃ c, linesB l = c := ⟨_, rfl⟩
  rw [hrp]
  have HP := Lib.hid hrp
  clear hrp hL
  go_enter Try.func76, Try.ntmps76
  by_cases h3 : l.length < 3
  · have e : rp = false := by rw [← HP.out]; simp [linesB]; omega
    subst e
    go_wp2
    go_ret
    exact ⟨rfl, Ext.refl w⟩
  go_wp2_with fail
  refine (containsFunc_pb 104 #[] enters_areLines1 badP l a c w HL.out (by omega) (fun x _ W _ => areLines1 x W)).mono ?_
  rintro e w1 ⟨rfl, hx1⟩
  cases h2 : l.any badP
  case true =>
    have e : rp = false := by rw [← HP.out]; simp [linesB, h2]
    subst e
    go_wp2
    go_ret
    exact ⟨rfl, hx1⟩
  have hok : ∀ i, (h : i < l.length) → l[i].ok := fun i h => ok_of_bad (by
    have := List.any_eq_false.1 h2 l[i] (List.getElem_mem h)
    simpa using this)
  have HOK := Lib.hid hok
  obtain ⟨b0, o0, rfl, z0, z1⟩ := HL.out 0 (by omega)
  rw [Nat.zero_mul, Nat.add_zero] at z0 z1
  replace z0 := hx1.cell z0
  replace z1 := hx1.cell z1
  have hb0 := lt_of_cell z0
  simp only at hb0
  clear hok
  have hpt : ∀ i, (h : i < l.length) → ptAt l i = l[i] := fun i h => by simp [ptAt, List.getD_eq_getElem?_getD, h]
  have HPT := Lib.hid hpt
  have hlb : (linesB l) = (List.range l.length).all (linkB l) := by simp only [linesB, h2, Bool.not_false, Bool.true_and]; rw [show decide (3 ≤ l.length) = true by simpa using h3, Bool.true_and]
  have HLB := Lib.hid (hlb.symm.trans HP.out)
  have hfok := HOK.out 0 (by omega)
  obtain ⟨f, hf⟩ : ∃ f, l[0] = f := ⟨_, rfl⟩
  rw [hf] at z0 z1 hfok
  have HF := Lib.hid hf
  have HFOK := Lib.hid hfok
  clear hpt hlb hf hfok
  go_wp2_with fail
  obtain ⟨w2, hw2⟩ : ∃ x, x = w1.alloc (.cells #[.int .i64 f.x, .int .i64 f.y] 99) := ⟨_, rfl⟩
  have hx2 : Ext w1 w2 := by rw [hw2]; exact (Ext.refl w1).alloc _
  have hb3 : Blk w2 w1.heap.size #[.int .i64 f.x, .int .i64 f.y] := by rw [hw2]; exact Blk.new _ _ _
  rw [← hw2]
  have HX2 := Lib.hid (hx1.trans hx2)
  have HB3 := Lib.hid hb3
  clear z0 z1 hb0 hw2 hx2 hb3 hx1
  go_loopw [20] (fun i wr => ∃ k : Nat, k ≤ l.length ∧ i = .int .i64 k ∧ (∀ j, j < k → linkB l j = true) ∧ Ext w2 wr) (fun i _ => l.length - (intOf i).toNat)
  case atStart => exact ⟨0, Nat.zero_le _, rfl, by omega, Ext.refl w2⟩
  case round =>
    obtain ⟨k, hk, rfl, hall, hx⟩ := hrel
    have HA := Lib.hid hall
    have hx0 := HX2.out.trans hx
    clear hall
    by_cases hlt : k < l.length
    · obtain ⟨nk, hnk⟩ : ∃ nk, nk = (k + 1) % l.length := ⟨_, rfl⟩
      have hnl : nk < l.length := by rw [hnk]; exact Nat.mod_lt _ (by omega)
      have hni : ((k : Int) + 1) % (l.length : Int) = (nk : Int) := by rw [hnk, Int.natCast_emod, Int.natCast_add]; rfl
      have HNK := Lib.hid hnk
      have hlk : linkB l k = (partP l[k] l[nk] == 1 && (decide (l.length ≤ k + 1) || befP f l[k] l[nk])) := by
        unfold linkB
        rw [← hnk, HPT.out k hlt, HPT.out nk hnl, HPT.out 0 (by omega), HF.out]
      have hpo := HOK.out k hlt
      have hno := HOK.out nk hnl
      obtain ⟨_, _, e, p0, p1⟩ := HL.out k hlt
      cases e
      obtain ⟨_, _, e, n0, n1⟩ := HL.out nk hnl
      cases e
      replace p0 := hx0.cell p0
      replace p1 := hx0.cell p1
      replace n0 := hx0.cell n0
      replace n1 := hx0.cell n1
      have hbl := lt_of_cell p0
      simp only at hbl
      generalize l[k] = P at *
      generalize l[nk] = N at *
      have HPA := Lib.hid (fun W => brd_part P N W hpo hno)
      have HBE := Lib.hid (fun W => brd_before f P N W HFOK.out hpo hno)
      have hb3 := HB3.out.ext hx
      have g0 := hb3.cell 0 (v := .int .i64 f.x) rfl
      have g1 := hb3.cell 1 (v := .int .i64 f.y) rfl
      have hg := hb3.lt
      have HLK := Lib.hid hlk
      have HX := Lib.hid hx
      have HX0 := Lib.hid hx0
      obtain ⟨pq, hpq⟩ : ∃ c, partP P N = c := ⟨_, rfl⟩
      obtain ⟨bq, hbq⟩ : ∃ c, befP f P N = c := ⟨_, rfl⟩
      rw [hpq] at HPA HLK
      rw [hbq] at HBE HLK
      clear hnk hlk hpo hno hb3 hx hx0 hpq hbq
      unfold Pt.agg at HPA HBE
      have hbad : linkB l k = false → rp = false := fun h => by
        rw [← HLB.out]
        exact List.all_eq_false.2 ⟨k, List.mem_range.2 hlt, by simp [h]⟩
      have HBAD := Lib.hid hbad
      clear hbad
      go_wp2_with fail
      refine (HPA.out _).mono ?_
      rintro e w3 ⟨rfl, hx3⟩
      have hW : Ext wr w3 := Ext.trans (((Ext.refl wr).alloc _).alloc _) hx3
      have hbP : Blk w3 wr.heap.size #[.int .i64 P.x, .int .i64 P.y] := ((Blk.new wr _ _).alloc _).ext hx3
      have hbN : Blk w3 (wr.heap.size + 1) #[.int .i64 N.x, .int .i64 N.y] := (Blk.at _ (by simp)).ext hx3
      replace g0 := hW.cell g0
      replace g1 := hW.cell g1
      have P0 := hbP.cell 0 (v := .int .i64 P.x) rfl
      have P1 := hbP.cell 1 (v := .int .i64 P.y) rfl
      have N0 := hbN.cell 0 (v := .int .i64 N.x) rfl
      have N1 := hbN.cell 1 (v := .int .i64 N.y) rfl
      have HW0 := Lib.hid (HX0.out.trans hW)
      have HW := Lib.hid (HX.out.trans hW)
      clear hW hbP hbN hx3 p0 p1 n0 n1 hbl hni hg
      by_cases h4 : pq = 1
      · subst h4
        by_cases h5 : k + 1 < l.length
        · go_wp2_with fail
          refine (HBE.out _).mono ?_
          rintro e w4 ⟨rfl, hx4⟩
          have hT := HW.out.trans hx4
          have hT0 := HW0.out.trans hx4
          cases bq
          · have e : rp = false := HBAD.out (by rw [HLK.out]; simp; omega)
            subst e
            go_wp2
            go_ret
            exact ⟨rfl, hT0⟩
          · have hk1 : linkB l k = true := by rw [HLK.out]; simp
            have HK1 := Lib.hid hk1
            clear hk1
            go_wp2
            go_roundw
            case rel => exact ⟨k + 1, by omega, by go_num, fun j hj => by
              rcases Nat.lt_or_ge j k with h | h
              · exact HA.out j h
              · rw [show j = k by omega]; exact HK1.out, hT⟩
            case measure => simp [intOf]; omega
        · have hk1 : linkB l k = true := by rw [HLK.out]; simp; left; omega
          have HK1 := Lib.hid hk1
          clear hk1
          go_wp2
          go_roundw
          case rel => exact ⟨k + 1, by omega, by go_num, fun j hj => by
            rcases Nat.lt_or_ge j k with h | h
            · exact HA.out j h
            · rw [show j = k by omega]; exact HK1.out, HW.out⟩
          case measure => simp [intOf]; omega
      · have e : rp = false := HBAD.out (by rw [HLK.out]; simp [h4])
        have h4' : (pq == 1) = false := by simpa using h4
        subst e
        go_wp2
        go_ret
        exact ⟨rfl, HW0.out⟩
    · have e : rp = true := by
        rw [← HLB.out, List.all_eq_true]
        intro j hj
        exact HA.out j (by have := List.mem_range.1 hj; omega)
      subst e
      have HX0 := Lib.hid hx0
      clear hx hx0
      go_wp2
      go_ret
      exact ⟨rfl, HX0.out⟩
end Go.Proofs.Ytpifdeglhalefaa
