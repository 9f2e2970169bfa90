/-
  The reference of chapter 3: Rules, Ints, Same, has.
-/
import Derived.Test.YtocnglplhnhllaaRfa
import Derived.Test.YtocnglplhnhllaaPla
import Derived.Test.YtocnglplhnhllaaApp
namespace Go.Proofs.Ytocnglplhnhllaa
open Go.RowKit Go.BigFrame
attribute [local go_sem] Later.cell Later.frozen
theorem ref_Ints (xs : List Int) (a b : Option Addr) (c d : Nat) (w : World) (ha : CellsAt w .i64 a xs) (hb : CellsAt w .i64 b xs) (hl : xs.length ≤ 9223372036854775807) :
    Calls Try.prog 52 #[.slice a xs.length c, .slice b xs.length d] w fun e w' => e = .returned (.bool true) ∧ Ext w w' := by
  have HA := Lib.hid ha
  have HB := Lib.hid hb
  clear ha hb
  go_enter Try.func52, Try.ntmps52
  go_wp2
  go_loopw [5] (fun i wr => ∃ k : Nat, k ≤ xs.length ∧ i = .int .i64 k ∧ Ext w wr) (fun i _ => xs.length - (intOf i).toNat)
  case atStart => exact ⟨0, Nat.zero_le _, rfl, Ext.refl w⟩
  case round =>
    obtain ⟨k, hk, rfl, hx⟩ := hrel
    by_cases hlt : k < xs.length
    · obtain ⟨b1, o1, rfl, e1⟩ := HA.out k hlt
      obtain ⟨b2, o2, rfl, e2⟩ := HB.out k hlt
      replace e1 := hx.cell e1
      replace e2 := hx.cell e2
      have hl1 := lt_of_cell e1
      have hl2 := lt_of_cell e2
      go_wp2
      refine wp_region_later (by kernel_rfl) (by kernel_rfl) ?_
      repeat (go_big_quiet_step (fail))
      refine wpQuiet_nil ?_
      intro w4 hw4
      obtain ⟨⟨w4, hx4⟩, rfl⟩ := hw4
      go_wp2
      go_roundw
      case rel => exact ⟨k + 1, by omega, by go_num, hx.trans hx4⟩
      case measure => simp [intOf]; omega
    · go_wp2
      go_ret
      exact ⟨rfl, hx⟩
/-- The cells at an address read as Booleans. -/
def BoolsAt (w : World) (a : Option Addr) (xs : List Bool) : Prop := ∀ i, (h : i < xs.length) → ∃ b o, a = some ⟨b, o, none⟩ ∧ w.cell? ⟨b, o + i, none⟩ = some (.bool xs[i])
theorem BoolsAt.ext {w w' : World} {a : Option Addr} {xs : List Bool} (h : BoolsAt w a xs) (he : Ext w w') : BoolsAt w' a xs := fun i hi => by
  obtain ⟨b, o, e, hc⟩ := h i hi
  exact ⟨b, o, e, he.cell hc⟩
theorem OwnB.cells {w : World} {base : Nat} {v : Value} {xs : List Bool} (h : OwnB w base v xs) : ∃ a c, v = .slice a xs.length c ∧ BoolsAt w a xs := by
  have hc := fun g (hg : v.ownBlock = some g) => World.ownsRow.cells (w := w) (g := g) h hg
  obtain ⟨h1, ⟨e, h2⟩ | ⟨g, cap, cur, e, h2, h3, h4⟩⟩ := h
  · have : xs = [] := List.length_eq_zero_iff.1 h2
    subst this
    exact ⟨none, 0, e, fun i hi => absurd hi (by simp)⟩
  · refine ⟨some ⟨g, 0, none⟩, cap, e, fun i hi => ⟨g, 0, rfl, ?_⟩⟩
    have := hc g (by rw [e]; rfl) i (.bool xs[i]) (by simp [hi])
    rwa [addr_add] at this
/-- A state of a leg, to be read. -/
structure RdSt (w : World) (g : Gm) (v : Value) (a0 a1 a2 a3 : Option Addr) (c0 c1 c2 c3 : Nat) : Prop where
  shape : v = .agg #[.slice a0 g.left.length c0, .slice a1 g.darts.length c1, .slice a2 g.inn.length c2, .int .i64 g.next, .int .i64 g.round, .bool g.over, .slice a3 g.winners.length c3]
  left : CellsAt w .i64 a0 g.left
  darts : CellsAt w .i64 a1 g.darts
  inn : BoolsAt w a2 g.inn
  winners : CellsAt w .i64 a3 g.winners
def Reads3 (w : World) (g : Gm) (v : Value) : Prop := ∃ a0 a1 a2 a3 c0 c1 c2 c3, RdSt w g v a0 a1 a2 a3 c0 c1 c2 c3
theorem Reads3.ext {w w' : World} {g : Gm} {v : Value} (h : Reads3 w g v) (hx : Ext w w') : Reads3 w' g v := by
  obtain ⟨a0, a1, a2, a3, c0, c1, c2, c3, h⟩ := h
  exact ⟨a0, a1, a2, a3, c0, c1, c2, c3, h.shape, h.left.ext hx, h.darts.ext hx, h.inn.ext hx, h.winners.ext hx⟩
theorem StAt.reads {w : World} {base : Nat} {v : Value} {g : Gm} (h : StAt w base v g) : Reads3 w g v := by
  obtain ⟨lv, dv, iv, wv, rfl, h1, h2, h3, h4⟩ := h
  obtain ⟨a0, c0, rfl, k0⟩ := h1.cells
  obtain ⟨a1, c1, rfl, k1⟩ := h2.cells
  obtain ⟨a2, c2, rfl, k2⟩ := OwnB.cells h3
  obtain ⟨a3, c3, rfl, k3⟩ := h4.cells
  exact ⟨a0, a1, a2, a3, c0, c1, c2, c3, rfl, k0, k1, k2, k3⟩
/-- Sizes that a leg's lists keep. -/
def Gm.Small (g : Gm) : Prop := g.left.length ≤ 1000000 ∧ g.darts.length ≤ 1000000 ∧ g.inn.length ≤ 1000000 ∧ g.winners.length ≤ 1000000
set_option maxHeartbeats 1000000 in
theorem ref_Same (g : Gm) (v v' : Value) (w : World) (h : Reads3 w g v) (h' : Reads3 w g v') (hs : g.Small) :
    Calls Try.prog 26 #[v, v'] w fun e w' => e = .returned (.bool true) ∧ Ext w w' := by
  obtain ⟨a0, a1, a2, a3, c0, c1, c2, c3, h⟩ := h
  obtain ⟨b0, b1, b2, b3, d0, d1, d2, d3, h'⟩ := h'
  obtain ⟨s1, s2, s3, s4⟩ := hs
  obtain rfl := h.shape
  obtain rfl := h'.shape
  have H := Lib.hid h
  have H' := Lib.hid h'
  clear h h'
  go_enter Try.func26, Try.ntmps26
  go_wp2
  generalize hW : World.alloc _ _ = W
  have hE : Ext w W := by rw [← hW]; exact ((Ext.refl w).alloc _).alloc _
  have hA : Blk W w.heap.size #[.slice a0 g.left.length c0, .slice a1 g.darts.length c1, .slice a2 g.inn.length c2, .int .i64 g.next, .int .i64 g.round, .bool g.over, .slice a3 g.winners.length c3] := by rw [← hW]; exact (Blk.new w _ _).alloc _
  have hB : Blk W (w.heap.size + 1) #[.slice b0 g.left.length d0, .slice b1 g.darts.length d1, .slice b2 g.inn.length d2, .int .i64 g.next, .int .i64 g.round, .bool g.over, .slice b3 g.winners.length d3] := by rw [← hW]; exact Blk.at _ (by simp)
  have HA := Lib.hid hA
  have HB := Lib.hid hB
  clear hW hA hB
  go_loopw [5] (fun i wr => ∃ k : Nat, k ≤ g.inn.length ∧ i = .int .i64 k ∧ Ext W wr) (fun i _ => g.inn.length - (intOf i).toNat)
  case atStart => exact ⟨0, Nat.zero_le _, rfl, Ext.refl W⟩
  case round =>
    obtain ⟨k, hk, rfl, hx⟩ := hrel
    obtain ⟨⟨p0, p1, p2, p3, p4, p5, p6⟩, ps, -⟩ := (HA.out.ext hx).seven
    obtain ⟨⟨q0, q1, q2, q3, q4, q5, q6⟩, qs, -⟩ := (HB.out.ext hx).seven
    have hEx := hE.trans hx
    by_cases hlt : k < g.inn.length
    · obtain ⟨x1, o1, rfl, e1⟩ := H.out.inn k hlt
      obtain ⟨x2, o2, rfl, e2⟩ := H'.out.inn k hlt
      replace e1 := hEx.cell e1
      replace e2 := hEx.cell e2
      have hl1 := lt_of_cell e1
      have hl2 := lt_of_cell e2
      go_wp2
      refine wp_region_later (by kernel_rfl) (by kernel_rfl) ?_
      repeat (go_big_quiet_step (fail))
      refine wpQuiet_nil ?_
      intro w4 hw4
      obtain ⟨⟨w4, hx4⟩, rfl⟩ := hw4
      go_wp2
      go_roundw
      case rel => exact ⟨k + 1, by omega, by go_num, hx.trans hx4⟩
      case measure => simp [intOf]; omega
    · go_wp2_with fail
      refine (ref_Ints g.left a0 b0 c0 d0 _ (H.out.left.ext hEx) (H'.out.left.ext hEx) (by omega)).mono ?_
      rintro e w1 ⟨rfl, hx1⟩
      have hE1 := hEx.trans hx1
      have hX1 := hx.trans hx1
      clear p0 p1 p2 p3 p4 p5 p6 ps q0 q1 q2 q3 q4 q5 q6 qs hx1 hx hEx
      obtain ⟨⟨p0, p1, p2, p3, p4, p5, p6⟩, ps, -⟩ := (HA.out.ext hX1).seven
      obtain ⟨⟨q0, q1, q2, q3, q4, q5, q6⟩, qs, -⟩ := (HB.out.ext hX1).seven
      go_wp2_with fail
      refine (ref_Ints g.darts a1 b1 c1 d1 _ (H.out.darts.ext hE1) (H'.out.darts.ext hE1) (by omega)).mono ?_
      rintro e w2 ⟨rfl, hx2⟩
      have hE2 := hE1.trans hx2
      have hX2 := hX1.trans hx2
      clear p0 p1 p2 p3 p4 p5 p6 ps q0 q1 q2 q3 q4 q5 q6 qs hx2 hX1 hE1
      obtain ⟨⟨p0, p1, p2, p3, p4, p5, p6⟩, ps, -⟩ := (HA.out.ext hX2).seven
      obtain ⟨⟨q0, q1, q2, q3, q4, q5, q6⟩, qs, -⟩ := (HB.out.ext hX2).seven
      go_wp2_with fail
      refine (ref_Ints g.winners a3 b3 c3 d3 _ (H.out.winners.ext hE2) (H'.out.winners.ext hE2) (by omega)).mono ?_
      rintro e w3 ⟨rfl, hx3⟩
      have hE3 := hE2.trans hx3
      have hX3 := hX2.trans hx3
      clear p0 p1 p2 p3 p4 p5 p6 ps q0 q1 q2 q3 q4 q5 q6 qs hx3 hX2 hE2
      obtain ⟨⟨p0, p1, p2, p3, p4, p5, p6⟩, ps, -⟩ := (HA.out.ext hX3).seven
      obtain ⟨⟨q0, q1, q2, q3, q4, q5, q6⟩, qs, -⟩ := (HB.out.ext hX3).seven
      go_wp2
      go_ret
      exact ⟨ret_bool (by simp), hE3⟩
theorem ref_has (xs : List Int) (n : Int) (a : Option Addr) (c : Nat) (w : World) (ha : CellsAt w .i64 a xs) (hl : xs.length ≤ 9223372036854775807) :
    Calls Try.prog 86 #[.slice a xs.length c, .int .i64 n] w fun e w' => e = .returned (.bool (xs.any (· == n))) ∧ w = w' := by
  have HA := Lib.hid ha
  clear ha
  go_enter Try.func86, Try.ntmps86
  go_wp2
  go_loop [5] (fun i => ∃ k : Nat, k ≤ xs.length ∧ i = .int .i64 k ∧ (∀ j, (h : j < xs.length) → j < k → (xs[j] == n) = false)) (fun i => xs.length - (intOf i).toNat)
  case atStart => exact ⟨0, Nat.zero_le _, rfl, by omega⟩
  case round =>
    obtain ⟨k, hk, rfl, hall⟩ := hrel
    have H := Lib.hid hall
    clear hall
    by_cases hlt : k < xs.length
    · obtain ⟨b1, o1, rfl, e1⟩ := HA.out k hlt
      cases hp : xs[k] == n
      · go_wp2
        go_round
        case rel => exact ⟨k + 1, by omega, by go_num, fun j hj hjk => by
          rcases Nat.lt_or_ge j k with h | h
          · exact H.out j hj h
          · obtain rfl : j = k := by omega
            exact hp⟩
        case measure => simp [intOf]; omega
      · have he : xs.any (· == n) = true := List.any_eq_true.2 ⟨_, List.getElem_mem hlt, hp⟩
        have HE := Lib.hid he
        clear he
        go_wp2
        go_ret
        exact ⟨ret_bool HE.out.symm, rfl⟩
    · have he : xs.any (· == n) = false := List.any_eq_false.2 fun x hx => by
        obtain ⟨j, hj, rfl⟩ := List.mem_iff_getElem.1 hx
        rw [H.out j hj (by omega)]; simp
      have HE := Lib.hid he
      clear he
      go_wp2
      go_ret
      exact ⟨ret_bool HE.out.symm, rfl⟩
theorem Rul.ok_eq (r : Rul) : r.ok = ((!r.counts.any (fun c => !c.ok)) && (ins 1 8 [(r.counts.length : Int)] && (ins 0 ((r.counts.length : Int) - 1) [r.first] && ins 0 200 [r.rounds]))) := by
  have e : ins 1 8 [(r.counts.length : Int)] = ins 0 7 [(r.counts.length : Int) - 1] := by
    rw [Bool.eq_iff_iff, ins_one, ins_one]; omega
  rw [e]
  unfold Rul.ok
  generalize ins 0 7 [(r.counts.length : Int) - 1] = x
  generalize r.counts.any (fun c => !c.ok) = y
  generalize ins 0 ((r.counts.length : Int) - 1) [r.first] = z
  generalize ins 0 200 [r.rounds] = u
  cases x <;> cases y <;> cases z <;> cases u <;> rfl
set_option maxHeartbeats 1000000 in
theorem ref_Rules (r : Rul) (a : Option Addr) (c : Nat) (w : World) (ha : CntsAt w a r.counts) (hl : r.counts.length ≤ 9223372036854775807) :
    Calls Try.prog 24 #[.agg #[.slice a r.counts.length c, .int .i64 r.first, .int .i64 r.rounds, .bool r.equal]] w fun e w' => e = .returned (.bool r.ok) ∧ Ext w w' := by
  have HO := Lib.hid (Rul.ok_eq r)
  obtain ⟨cs, first, rounds, equal⟩ := r
  simp only at ha hl HO ⊢
  generalize Rul.ok ⟨cs, first, rounds, equal⟩ = ok at *
  have HA := Lib.hid ha
  clear ha
  have hw : wrap64 ((cs.length : Int) - 1) = (cs.length : Int) - 1 := wrap64_in' ⟨by omega, by omega⟩
  go_enter Try.func24, Try.ntmps24
  go_wp2
  generalize hW : World.alloc _ _ = W
  have hE : Ext w W := by rw [← hW]; exact (Ext.refl w).alloc _
  have hB : Blk W w.heap.size #[.slice a cs.length c, .int .i64 first, .int .i64 rounds, .bool equal] := by rw [← hW]; exact Blk.new w _ _
  have HB := Lib.hid hB
  clear hW hB
  go_loopw [3] (fun i wr => ∃ k : Nat, k ≤ cs.length ∧ i = .int .i64 k ∧ (∀ j, (h : j < cs.length) → j < k → cs[j].ok = true) ∧ Ext W wr) (fun i _ => cs.length - (intOf i).toNat)
  case atStart => exact ⟨0, Nat.zero_le _, rfl, by omega, Ext.refl W⟩
  case round =>
    obtain ⟨k, hk, rfl, hall, hx⟩ := hrel
    have H := Lib.hid hall
    clear hall
    have hB := HB.out.ext hx
    have hE1 := hE.trans hx
    have p0 := hB.cell 0 (v := .slice a cs.length c) rfl
    have p1 := hB.cell 1 (v := .int .i64 first) rfl
    have p2 := hB.cell 2 (v := .int .i64 rounds) rfl
    have hlb := hB.lt
    have HB1 := Lib.hid hB
    clear hB
    by_cases hlt : k < cs.length
    · obtain ⟨b1, o1, rfl, e0, e1, e2⟩ := HA.out k hlt
      replace e0 := hE1.cell e0
      replace e1 := hE1.cell e1
      replace e2 := hE1.cell e2
      have hok : cs[k].ok = cntB cs[k].start cs[k].gin cs[k].gout := rfl
      have hmem := List.getElem_mem hlt
      have HK := Lib.hid hok
      clear hok
      have hstep : ∀ q, q = true → cs[k].ok = q → ∀ j, (h : j < cs.length) → j < k + 1 → cs[j].ok = true := fun q hq he j hj hjk => by
        rcases Nat.lt_or_ge j k with h | h
        · exact H.out j hj h
        · obtain rfl : j = k := by omega
          rw [he, hq]
      have HST := Lib.hid hstep
      clear hstep
      generalize cs[k] = ck at *
      go_wp2_with fail
      refine (ref_Count ck.start ck.gin ck.gout _).mono ?_
      rintro e w1 ⟨rfl, hx1⟩
      cases hc : cntB ck.start ck.gin ck.gout
      · have hno : ok = false := by rw [HO.out, List.any_eq_true.2 ⟨ck, hmem, by rw [HK.out, hc]; rfl⟩]; rfl
        have HNO := Lib.hid hno
        clear hno
        go_wp2
        go_ret
        exact ⟨ret_bool HNO.out.symm, hE1.trans hx1⟩
      · go_wp2
        go_roundw
        case rel => exact ⟨k + 1, by omega, by go_num, HST.out _ hc HK.out, hx.trans hx1⟩
        case measure => simp [intOf]; omega
    · have hany : cs.any (fun c => !c.ok) = false := List.any_eq_false.2 fun x hx => by
        obtain ⟨j, hj, rfl⟩ := List.mem_iff_getElem.1 hx
        rw [H.out j hj (by omega)]; simp
      have HO2 : Hid (ok = (ins 1 8 [(cs.length : Int)] && (ins 0 ((cs.length : Int) - 1) [first] && ins 0 200 [rounds]))) := Lib.hid (by rw [HO.out, hany]; rfl)
      clear hany HO
      go_wp2_with fail
      refine (ref_In _ _ _ _).mono ?_
      rintro e w1 ⟨rfl, rfl⟩
      cases h1 : ins 1 8 [(cs.length : Int)]
      · go_wp2
        go_ret
        exact ⟨ret_bool (by rw [HO2.out, h1]; rfl), hE1⟩
      go_wp2_with fail
      refine (ref_In _ _ _ _).mono ?_
      rintro e w1 ⟨rfl, rfl⟩
      cases h2 : ins 0 ((cs.length : Int) - 1) [first]
      · go_wp2
        go_ret
        exact ⟨ret_bool (by rw [HO2.out, h1, h2]; rfl), hE1⟩
      go_wp2_with fail
      refine (ref_In _ _ _ _).mono ?_
      rintro e w1 ⟨rfl, rfl⟩
      go_wp2
      go_ret
      exact ⟨ret_bool (by rw [HO2.out, h1, h2]; simp), hE1⟩
end Go.Proofs.Ytocnglplhnhllaa
